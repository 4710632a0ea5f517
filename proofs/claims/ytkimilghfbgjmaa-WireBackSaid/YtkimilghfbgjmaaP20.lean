/-
  WIRE: num.Put. WIRE: num.Text. WIRE: num.List. WIRE: num.Take. WIRE: num.TakeText. No condition.
-/
import Derived.Test.YtkimilghfbgjmaaP19

namespace Go.Abs
open Go Go.Proofs
set_option maxRecDepth 10000
set_option maxHeartbeats 4000000

/-- Bytes that grow. -/
def slD (l : List UInt8) : D := match l with
  | [] => .osl false true 0 []
  | b :: l => .osl true false 1 (byE (b :: l))
theorem slD_fit {n : Nat} {l : List UInt8} : Fit n (slD l) := by cases l <;> exact .osl _ _ _ _
theorem app31n {xs : List (List E)} {a : D} (ha : slOf a = some xs) (hok : okRows 1 xs = true) (hl : xs.length ≤ 1073741824) : Zfi Try.prog 31 (.osl false true 0 []) a false = some (.osl true false 1 xs) := by
  unfold Zfi
  rw [el31]
  simp only [sz5, by5, Zed, zo5]
  cases a with
  | e v =>
    cases v with
    | str => simp [slOf] at ha
    | _ => simp_all [notTup, cellsOf]
  | osl => simp_all [notTup, cellsOf]
  | _ => simp [slOf] at ha
theorem len31 {ex fu : Bool} {sz : Nat} {es : List (List E)} {h : List O} : len0 Try.prog 31 (.osl ex fu sz es) h = some es.length := len0_of Try.underlying31 Zg0
theorem len31h {n : Nat} {h : List O} : len0 Try.prog 31 (.hdr n) h = some n := len0_hdr Try.underlying31
theorem len31e {es : List (List E)} {h : List O} : len0 Try.prog 31 (.e (.sl es)) h = some es.length := len0_of Try.underlying31 slOf_e
theorem ok_row1 {b : Int} : okRows 1 [[E.int .u8 b]] = true := rfl
theorem app_row0 {b : Int} : Zfi Try.prog 31 (.osl false true 0 []) (.osl false true 1 [[E.int .u8 b]]) false = some (.osl true false 1 [[E.int .u8 b]]) := app31n Zg0 ok_row1 (by simp)
theorem app_row {ex fu : Bool} {xs : List UInt8} {b : UInt8} (hl : xs.length ≤ 1000000) (hne : xs ≠ []) : Zfi Try.prog 31 (.osl ex fu 1 (byE xs)) (.osl false true 1 [[E.int .u8 (b.toNat : Int)]]) false = some (.osl ex false 1 (byE (xs ++ [b]))) := by
  rw [app31b (by cases xs <;> simp_all [byE]) Zg0 ok_row1 (by simp [byE_len]; omega)]
  simp [byE, byR]
theorem row1 (b : UInt8) : [[E.int .u8 (b.toNat : Int)]] = byE [b] := rfl

theorem w90b (H : List O) (L p1 i0 : Nat) (q0 : List UInt8) (n0 : Nat) (hn0 : n0 ≤ 1099511627776) (h0 : H[i0]? = some (.cells [slD q0])) (h1 : H[p1]? = some (.cells [.int .i64 (n0 : Int)])) (hi : i0 ≠ p1)
    (hk0 : q0.length + (digs n0).length ≤ 1000) (hr : ∀ (q : List UInt8) (n : Nat) b, q.length ≤ 1000 → call Try.prog wpr wcv (.round L) [.int .u8 (UInt8.toNat b : Int)] ((H.set i0 (.cells [slD q])).set p1 (.cells [.int .i64 (n : Int)])) = some (.val (.bool true), (H.set i0 (.cells [slD (q ++ [b])])).set p1 (.cells [.int .i64 (n : Int)]))) :
    call Try.prog wpr wcv (.fn 90) [.func (.yield L) [] [], .ptr p1 0] H = some (.val Zav, (H.set i0 (.cells [slD ((digs n0).foldl (fun q b => q ++ [b]) q0)])).set p1 (.cells [.int .i64 0])) := by
  have hlt := (List.getElem?_eq_some_iff.1 h1).1
  have := w90 (fun (q : List UInt8) (n : Nat) => q.length + (digs n).length ≤ 1000) (fun (q : List UInt8) (n : Nat) => (H.set i0 (.cells [slD q])).set p1 (.cells [.int .i64 (n : Int)])) L p1 (fun q b => q ++ [b]) n0 hn0
    (fun s n => by simp [Zbp, hlt]) (fun s n m => by rw [List.set_set]) (fun s n hn hk => by rw [digs.eq_def n, dif_pos hn] at hk; simp at hk ⊢; omega) (fun s n b _ hk => hr s n b (by omega)) (fun s n s' n' d => Zf0 (by simp)) q0 hk0
  rw [set_self' h0, set_self' h1] at this
  exact this

/-- A number's bytes. -/
def putL (n : Nat) : List UInt8 := (digs n ++ [UInt8.ofNat (digs n).length]).reverse
theorem fold_app (xs q : List UInt8) : xs.foldl (fun q b => q ++ [b]) q = q ++ xs := by
  induction xs generalizing q with
  | nil => simp
  | cons x xs ih => rw [List.foldl_cons, ih]; simp
theorem digs_len (n : Nat) (hn : n ≤ 1099511627776) : (digs n).length ≤ 6 := by
  have : ∀ k m : Nat, m < 256 ^ k → (digs m).length ≤ k := by
    intro k
    induction k with
    | zero => intro m hm; have : m = 0 := by simpa using hm
              subst this; rw [digs]; simp
    | succ k ih =>
      intro m hm
      rw [digs]
      split
      · have := ih (m / 256) (by rw [Nat.pow_succ] at hm; omega)
        simp; omega
      · simp
  exact this 6 n (by omega)

theorem flat_byE (l : List UInt8) : (byE l).flatten.map D.e = bD l := by
  induction l with
  | nil => rfl
  | cons b l ih => simp only [byE, bD, List.map_cons, List.flatten_cons, List.map_append] at ih ⊢; rw [ih]; rfl
theorem cv_opnC {tl : List D} {df : List (FuncId × List D)} {r : Rc} {h ex : List O} {t : Tmp} {l : List UInt8} {fu : Bool} (hl : l ≠ []) (hp : tl.getD t Zav = .ptr h.length 0) :
    cv1 ⟨tl, df, r, h ++ .cells [.osl true fu 1 (byE l)] :: ex⟩ (.opnC t) = ⟨tl, df, r, h ++ .cells [.asl (h.length + (ex.length + 1)) 0 l.length] :: (ex ++ [.cells (bD l)])⟩ := by
  obtain ⟨b, l', rfl⟩ := List.exists_cons_of_ne_nil hl
  have e1 : openD (h.length + (ex.length + 1)) (.osl true fu 1 (byE (b :: l'))) = some (.asl (h.length + (ex.length + 1)) 0 (b :: l').length, .cells (bD (b :: l'))) := by
    rw [← flat_byE]
    simp [openD, byE]
  simp only [cv1, hp, Zas, Zbg, List.getElem?_cons_zero, List.length_append, List.length_cons, e1]
  simp [Zeq]
theorem rows1 : ∀ (xs : List E), rows 1 xs.length xs = xs.map fun x => [x]
  | [] => rfl
  | x :: xs => by simp only [List.length_cons, rows, List.map_cons]; rw [show (x :: xs).drop 1 = xs by rfl, rows1 xs]; rfl
theorem plain_bD (l : List UInt8) : Zhq (bD l) = some (l.map fun b => .int .u8 (b.toNat : Int)) := by
  induction l with
  | nil => rfl
  | cons b l ih => simp only [bD, List.map_cons, Zhq] at ih ⊢; rw [ih]; rfl
theorem shutD_bD {h : List O} {i : Nat} {l : List UInt8} (hg : Zbp h i = some (bD l)) (hl : l ≠ []) : shutD h i l.length = some (.e (.sl (byE l))) := by
  have hp : 0 < l.length := List.length_pos_iff.2 hl
  have hd : l.length / l.length = 1 := Nat.div_self hp
  unfold shutD
  rw [hg]
  simp only [plain_bD, List.length_map, hd]
  rw [if_pos ⟨hp, by omega, by omega⟩]
  have := rows1 (l.map fun b => E.int .u8 (b.toNat : Int))
  rw [List.length_map] at this
  rw [this, List.map_map]; rfl
theorem cv_shutC {tl : List D} {df : List (FuncId × List D)} {r : Rc} {h : List O} {c1 : O} {t : Tmp} {l : List UInt8} {n : Nat} (hl : l ≠ []) (hn : n = l.length) (hp : tl.getD t Zav = .ptr h.length 0) :
    cv1 ⟨tl, df, r, h ++ [.cells [.asl (h.length + 2) 0 n], c1, .cells (bD l)]⟩ (.shutC t) = ⟨tl, df, r, h ++ [.cells [.e (.sl (byE l))], c1, .dead]⟩ := by
  subst hn
  have hg : Zbp (h ++ [.cells [.asl (h.length + 2) 0 l.length], c1, .cells (bD l)]) (h.length + 2) = some (bD l) := by rw [Zbh]; rfl
  have hne : ¬ (h.length + 2 = h.length) := by omega
  simp only [cv1, hp, Zas, Zbg, List.getElem?_cons_zero, if_neg hne, shutD_bD hg hl]
  simp [Zeq]

theorem w47_bad (n : Int) (hn : n < 0 ∨ 1099511627776 < n) (h : List O) : wc 47 [.int .i64 n] h = some (.val (.tup [.osl false true 0 [], .int .i64 2]), h) := by
  have hcv0 : wcv 47 0 = [] := rfl
  have hcv1 : wcv 47 1 = [] := rfl
  have hcv2 : wcv 47 2 = [] := rfl
  have hcv3 : wcv 47 3 = [] := rfl
  have hcv4 : wcv 47 4 = [] := rfl
  have hcv5 : wcv 47 5 = [] := rfl
  have hcv6 : wcv 47 6 = [] := rfl
  have hcv7 : wcv 47 7 = [] := rfl
  have hcv8 : wcv 47 8 = [.opnC 4] := rfl
  have hcv9 : wcv 47 9 = [.shutC 4] := rfl
  have hres : Try.f47.results.toList = [ResultVar.tmp 2, ResultVar.tmp 3] := rfl
  rw [wc, Zbt rfl Try.func47 rfl]
  by_cases h1 : n < 0
  · simp only [Zbi, List.length_cons, List.length_nil, Nat.reduceAdd, Nat.reduceSub, List.replicate, List.cons_append, List.nil_append, Zaj, Zaz, Za7, Zal, Za3, Zbr, Zae, Zao, Zak, Za9, Zdl, St.put, List.getElem?_toArray, List.getElem?_cons_succ, List.getElem?_cons_zero, Option.bind_some, Nat.reduceLT, ne_eq, reduceCtorEq, not_false_eq_true, implies_true, Bool.not_false, Option.map_some, List.set_cons_succ, List.set_cons_zero, List.getD_cons_succ, List.getD_cons_zero, Zau, Zdj, ↓reduceIte, Za2, Za0, Za6, Zam, Za4, Zaq, Zb7, Zac, Zai, Zan, Zax, Zcj, Zc2, Zbv, Zb0, Zab, Zaa, Zah, Zd6, Zcn, Zbm, Zcx, Zcw, List.forall_mem_cons, List.not_mem_nil, false_imp_iff, and_self, Option.some.injEq, Ze2, List.foldl_nil, Nat.zero_add, Zcy, hcv0, hcv1, hcv2, Try.ntmps47, hres, h1, decide_true]
  · have h2 : 1099511627776 < n := by omega
    simp only [Zbi, List.length_cons, List.length_nil, Nat.reduceAdd, Nat.reduceSub, List.replicate, List.cons_append, List.nil_append, Zaj, Zaz, Za7, Zal, Za3, Zbr, Zae, Zao, Zak, Za9, Zc0, List.getElem?_toArray, List.getElem?_cons_succ, List.getElem?_cons_zero, Option.bind_some, Nat.reduceLT, ne_eq, reduceCtorEq, not_false_eq_true, implies_true, Bool.false_eq_true, Option.map_some, List.set_cons_succ, List.set_cons_zero, List.getD_cons_succ, List.getD_cons_zero, Zau, Zdj, ↓reduceIte, Za2, Za0, Za6, Zam, Za4, Zaf, Zaq, Zac, Zai, Zan, Zcj, Zc2, Zf6, Zbv, Zei, Zb0, Zab, Zaa, Zah, Zd6, Zcn, Zbm, Zcx, Zcw, List.forall_mem_cons, List.not_mem_nil, false_imp_iff, and_self, Option.some.injEq, Ze2, List.foldl_nil, Nat.zero_add, Zcy, hcv0, hcv1, hcv2, Try.ntmps47, hres, h1, h2, decide_true, decide_false]
theorem w47 (n : Nat) (hn : n ≤ 1099511627776) (h : List O) : wc 47 [.int .i64 (n : Int)] h = some (.val (.tup [.e (.sl (byE (putL n))), .int .i64 0]), h) := by
  have h80 := w80 (n : Int)
  have e1 : decide ((n : Int) < 0) = false := by simp
  have e2 : decide (1099511627776 < (n : Int)) = false := by simp; omega
  have hcv0 : wcv 47 0 = [] := rfl
  have hcv1 : wcv 47 1 = [] := rfl
  have hcv2 : wcv 47 2 = [] := rfl
  have hcv3 : wcv 47 3 = [] := rfl
  have hcv4 : wcv 47 4 = [] := rfl
  have hcv5 : wcv 47 5 = [] := rfl
  have hcv6 : wcv 47 6 = [] := rfl
  have hcv7 : wcv 47 7 = [] := rfl
  have hcv8 : wcv 47 8 = [.opnC 4] := rfl
  have hcv9 : wcv 47 9 = [.shutC 4] := rfl
  have hres : Try.f47.results.toList = [ResultVar.tmp 2, ResultVar.tmp 3] := rfl
  rw [wc, Zbt rfl Try.func47 rfl]
  simp only [Zbi, List.length_cons, List.length_nil, Nat.reduceAdd, Nat.reduceSub, List.replicate, List.cons_append, List.nil_append, Zaj, Zbz, Zc3, Za7, Zar, Za3, Zae, Zao, Zbe, Zbf, Zak, Za9, Zbq, Zc0, List.getElem?_toArray, List.getElem?_cons_succ, List.getElem?_cons_zero, Option.bind_some, Nat.reduceLT, ne_eq, reduceCtorEq, not_false_eq_true, implies_true, Bool.false_eq_true, Option.map_some, List.set_cons_succ, List.set_cons_zero, List.getD_cons_succ, List.getD_cons_zero, Zau, ↓reduceIte, Za2, Za0, Za6, Zam, Zdz, Za4, Zaf, Zaq, Zac, Zai, Zaw, Zap, Zan, Zcj, Zc2, Zf6, Zbv, Zei, Option.some.injEq, Ze2, List.foldl_nil, hlen, Zi9, Zd3, Zcm, Nat.zero_add, Zcy, hcv0, hcv1, hcv3, hcv4, Try.ntmps47, e1, e2, zo31, h80]
  rw [kx_range rfl rfl rfl]
  simp only [List.length_cons, List.length_nil, Nat.reduceAdd, List.cons_append, List.nil_append, hlen, List.map_cons, List.map_nil, Nat.zero_add, List.append_assoc, shrT_undef, shrT_e, shrT_ptr, shrT_func, shrT_rd Rd.osl]
  have hdl := digs_len n hn
  refine kRng_of (P := Try.prog) (pr := wpr) (cv := wcv) (w90b _ _ _ h.length [] n hn (by simp [slD]) (by simp) (by omega) (by simp; omega) ?_) ?_
  · intro q m b hq
    rw [Zeu, Ze4]
    simp only [List.set_cons_succ, List.set_cons_zero, Zeu, Ze4]
    refine (call_round (hgetn.trans rfl) rfl).trans ?_
    simp only [Zae, Zao, Za9, ne_eq, reduceCtorEq, not_false_eq_true, implies_true, Option.map_some, List.set_cons_succ, List.set_cons_zero, List.getD_cons_succ, List.getD_cons_zero, Zau, Za0, Za4, Ze2, List.foldl_nil, Zcy, List.foldl_cons, hcv5, List.zip_cons_cons, List.zip_nil_right]
    rw [kBody_nrm (hgetn.trans rfl)]
    cases q with
    | nil =>
      simp only [List.length_cons, List.length_nil, List.nil_append, Zc3, Zc8, Zae, Zao, Zbb, Za9, Zce, List.getElem?_toArray, List.getElem?_cons_succ, List.getElem?_cons_zero, Option.bind_some, ne_eq, reduceCtorEq, not_false_eq_true, implies_true, Bool.false_eq_true, Option.map_some, List.set_cons_succ, List.set_cons_zero, List.getD_cons_succ, List.getD_cons_zero, Zau, Zdj, List.any_cons, List.any_nil, Zds, Bool.or_false, ↓reduceIte, Zby, Zbc, Za4, Zaf, Zac, Ze7, Zd9, Zdi, and_self, Ze2, List.foldl_nil, List.append_nil, Zas, Zbg, Zeu, Ze4, Zad, Zb4, Zd3, Zcm, Zbs, Zcq, List.take_zero, List.drop_succ_cons, List.drop_zero, List.map_cons, List.map_nil, Zag, Bool.or_self, Bool.or_true, Nat.zero_add, Nat.le_refl, Try.underlying31, sz31, ag31, Zcy, hcv6, slD, bs31_1, app_row0, List.zip_cons_cons, List.zip_nil_right, back, Zcp, taken, Zbj, Zdo, beq_self_eq_true, Nat.reduceBEq, Zdb, Zcg, Zgo, Zf7, Zev, Zd1, Zc1, shr_fu, Zf2]
      rw [rout_nrm (hgetn.trans rfl)]
      simp only [List.set_cons_succ, List.set_cons_zero, Ze4, row1]
    | cons x q =>
      have hap := app_row (ex := true) (fu := false) (xs := x :: q) (b := b) (by simp at hq ⊢; omega) (by simp)
      simp only [List.length_cons, List.length_nil, List.cons_append, List.nil_append, Zc3, Zc8, Zae, Zao, Zbb, Za9, Zce, List.getElem?_toArray, List.getElem?_cons_succ, List.getElem?_cons_zero, Option.bind_some, ne_eq, reduceCtorEq, not_false_eq_true, implies_true, Bool.false_eq_true, Option.map_some, List.set_cons_succ, List.set_cons_zero, List.getD_cons_succ, List.getD_cons_zero, Zau, List.any_cons, List.any_nil, Bool.or_false, ↓reduceIte, Zby, Zbc, Zaf, Zac, Ze7, Zd9, Zdi, and_self, Ze2, List.foldl_nil, List.append_nil, Zas, Zbg, Zeu, Ze4, Zad, Zb4, Zd3, Zcm, Zbs, Zcq, List.take_zero, List.drop_succ_cons, List.drop_zero, List.map_cons, List.map_nil, Zag, Bool.or_self, Bool.or_true, Nat.zero_add, Nat.le_refl, Try.underlying31, sz31, ag31, Zcy, hcv6, slD, bs31_1, hap, List.zip_cons_cons, List.zip_nil_right, back, Zcp, taken, Zbj, Zdo, beq_self_eq_true, Nat.reduceBEq, Zdb, Zcg, Zgo, Zf7, Zev, Zd1, Zfn, Zc1, Zh1, shr_fu, Zf2]
      rw [rout_nrm (hgetn.trans rfl)]
      simp only [List.set_cons_succ, List.set_cons_zero, Ze4]
  · rw [Zeu, Ze4, fold_app, List.nil_append]
    simp only [List.set_cons_succ, List.set_cons_zero]
    rw [kRng_nrm' (n := h.length + 2) (by simp) (hgetn.trans rfl) (by simp)]
    simp only [Zaj, Za3, Zc8, Zao, Option.bind_some, ne_eq, reduceCtorEq, not_false_eq_true, implies_true, List.set_cons_succ, List.set_cons_zero, List.getD_cons_succ, List.getD_cons_zero, Zac, Ze2, List.foldl_nil, Ze4, List.map_cons, List.map_nil, Zag, Zcy, hcv7]
    rw [gc_tail (n := h.length + 2) (h := h) (l := [_, _]) rfl (.tup [] (by simp)) ?_]
    rotate_left
    · exact ⟨.inr (.cells _ (by simp [slD_fit])), .inr (.cells _ (by simp [Zbm])), trivial⟩
    simp only [List.length_cons, List.length_nil, Nat.reduceAdd, List.nil_append, List.getElem?_cons_zero, ↓reduceIte, List.append_nil, Zas, Zbg, Zeu, Zad, Zb4, Zbs, List.take_succ_cons, List.take_zero, List.drop_succ_cons, List.drop_zero, Nat.zero_add, Nat.le_refl, sz31, ag31, kep_undef, kep_e, kep_ptr, kep_func, kep_rd Rd.osl]
    have hlen : (digs n ++ [UInt8.ofNat (digs n).length]).length ≤ 7 := by simp; omega
    have hne : digs n ++ [UInt8.ofNat (digs n).length] ≠ [] := by simp
    have h81 := w81 (h ++ [.cells [.asl (h.length + 2) 0 (digs n ++ [UInt8.ofNat (digs n).length]).length], .cells [.int .i64 0]]) [] (digs n ++ [UInt8.ofNat (digs n).length]) (by simp) (by omega)
    have hap : ∀ x q, digs n = x :: q → Zfi Try.prog 31 (.osl true false 1 (byE (digs n))) (.osl false true 1 [[E.int .u8 ((UInt8.ofNat (digs n).length).toNat : Int)]]) false = some (.osl true false 1 (byE (digs n ++ [UInt8.ofNat (digs n).length]))) := fun x q e => app_row (by omega) (by rw [e]; simp)
    have hap0 : digs n = [] → Zfi Try.prog 31 (.osl false true 0 []) (.osl false true 1 [[E.int .u8 ((UInt8.ofNat (digs n).length).toNat : Int)]]) false = some (.osl true false 1 (byE (digs n ++ [UInt8.ofNat (digs n).length]))) := fun e => by rw [app_row0, e]; rfl
    have hput : putL n = (digs n ++ [UInt8.ofNat (digs n).length]).reverse := rfl
    have hreg : ∀ fu : Bool, True := fun _ => trivial
    generalize hds : digs n ++ [UInt8.ofNat (digs n).length] = ds at *
    simp only [List.append_assoc, List.length_append, List.length_cons, List.length_nil, List.cons_append, List.nil_append, Nat.zero_add, Nat.reduceAdd] at h81
    have own0_asl : ∀ i o n, own0 (.asl i o n) = false := fun _ _ _ => rfl
    cases hd : digs n with
    | nil =>
      have hap0 := hap0 hd
      rw [hd] at hap0
      simp only [List.length_nil] at hap0
      simp only [List.length_cons, List.length_nil, List.nil_append, Zaj, Za3, Zae, Zao, Zbb, Za9, Zce, List.getElem?_toArray, List.getElem?_cons_succ, List.getElem?_cons_zero, Option.bind_some, ne_eq, reduceCtorEq, not_false_eq_true, implies_true, Bool.false_eq_true, Option.map_some, List.set_cons_succ, List.set_cons_zero, List.getD_cons_succ, List.getD_cons_zero, Zau, Zdj, List.any_cons, List.any_nil, Zds, Bool.or_false, ↓reduceIte, Zck, Zby, Zbc, Za4, Zaf, Zac, Ze7, Zd9, Zd0, Zdi, and_self, Ze2, List.foldl_nil, List.append_nil, Zas, Zbg, Zeu, Zad, Zb4, Zd3, Zcm, Zbs, Zcq, List.take_zero, List.drop_succ_cons, List.drop_zero, List.map_cons, List.map_nil, Option.bind_eq_bind, Zag, Bool.or_self, Bool.or_true, Nat.zero_add, Option.pure_def, Nat.le_refl, Try.underlying31, sz31, ag31, Zcy, List.foldl_cons, hcv8, slD, len31, byE_len, Zey Try.underlying3 Try.underlying5, u8_nat, List.zip_cons_cons, List.zip_nil_right, bs31_1, hap0, back, taken, Zbj, Zdo, beq_self_eq_true, Nat.reduceBEq, Zdb, Zcg, Zgo, Zf7, Zev, Zd1, Zc1, shr_fu, Zf2]
      rw [cv_opnC hne rfl]
      simp only [List.length_cons, List.length_nil, Nat.reduceAdd, List.cons_append, List.nil_append, Zaj, Za3, Zae, Zao, Zbe, Zbf, Za9, Zbq, List.getElem?_cons_zero, Option.bind_some, ne_eq, reduceCtorEq, not_false_eq_true, implies_true, Bool.false_eq_true, Option.map_some, List.set_cons_succ, List.set_cons_zero, List.getD_cons_succ, List.getD_cons_zero, own_asl, ↓reduceIte, Za4, Zac, Zaw, Zap, Ze2, List.foldl_nil, Zas, Zbg, Zad, Zbs, Zag, Nat.zero_add, Nat.le_refl, sz31, ag31, Zcy, List.foldl_cons, hcv9, own0_asl, h81]
      rw [cv_shutC (l := ds.reverse) (by simpa using hne) (by simp) rfl]
      simp only [List.length_cons, List.length_nil, Zaz, Za3, Zae, Zao, Za9, List.getElem?_cons_zero, Option.bind_some, ne_eq, reduceCtorEq, not_false_eq_true, implies_true, Bool.false_eq_true, Option.map_some, List.set_cons_succ, List.set_cons_zero, List.getD_cons_succ, List.getD_cons_zero, Zau, Zb3, ↓reduceIte, Za0, Za4, Zaq, Zac, Zan, Zb0, Zab, Zaa, Zah, Zd6, Zbm, Zcw, List.forall_mem_cons, List.not_mem_nil, false_imp_iff, and_self, Zas, Zbg, Zad, Zbs, Zb2, Nat.zero_add, Nat.le_refl, sz31, ag31, hres, hput]
    | cons x q =>
      have hap := hap x q hd
      rw [hd] at hap
      simp only [List.length_cons] at hap
      simp only [List.length_cons, List.length_nil, List.nil_append, Zaj, Za3, Zae, Zao, Zbb, Za9, Zce, List.getElem?_toArray, List.getElem?_cons_succ, List.getElem?_cons_zero, Option.bind_some, ne_eq, reduceCtorEq, not_false_eq_true, implies_true, Bool.false_eq_true, Option.map_some, List.set_cons_succ, List.set_cons_zero, List.getD_cons_succ, List.getD_cons_zero, Zau, List.any_cons, List.any_nil, own0_hdr, Bool.or_false, ↓reduceIte, Zck, Zby, Zbc, Zaf, Zac, Ze7, Zd9, Zd0, Zdi, and_self, Ze2, List.foldl_nil, List.append_nil, Zas, Zbg, Zeu, Zad, Zb4, Zd3, Zcm, Zbs, Zcq, List.take_zero, List.drop_succ_cons, List.drop_zero, List.map_cons, List.map_nil, Option.bind_eq_bind, Zag, Bool.or_self, Bool.or_true, Nat.zero_add, Option.pure_def, Nat.le_refl, Try.underlying31, sz31, ag31, Zcy, List.foldl_cons, hcv8, slD, len31h, byE_len, Zey Try.underlying3 Try.underlying5, u8_nat, List.zip_cons_cons, List.zip_nil_right, bs31_1, hap, back, taken, Zbj, Zdo, beq_self_eq_true, Nat.reduceBEq, Zdb, Zcg, Zgo, Zf7, Zev, Zd1, Zfn, Zc1, Zh1, shr_fu, Zf2]
      rw [cv_opnC hne rfl]
      simp only [List.length_cons, List.length_nil, Nat.reduceAdd, List.cons_append, List.nil_append, Zaj, Za3, Zae, Zao, Zbe, Zbf, Za9, Zbq, List.getElem?_cons_zero, Option.bind_some, ne_eq, reduceCtorEq, not_false_eq_true, implies_true, Bool.false_eq_true, Option.map_some, List.set_cons_succ, List.set_cons_zero, List.getD_cons_succ, List.getD_cons_zero, own_asl, ↓reduceIte, Za4, Zac, Zaw, Zap, Ze2, List.foldl_nil, Zas, Zbg, Zad, Zbs, Zag, Nat.zero_add, Nat.le_refl, sz31, ag31, Zcy, List.foldl_cons, hcv9, own0_asl, h81]
      rw [cv_shutC (l := ds.reverse) (by simpa using hne) (by simp) rfl]
      simp only [List.length_cons, List.length_nil, Zaz, Za3, Zae, Zao, Za9, List.getElem?_cons_zero, Option.bind_some, ne_eq, reduceCtorEq, not_false_eq_true, implies_true, Bool.false_eq_true, Option.map_some, List.set_cons_succ, List.set_cons_zero, List.getD_cons_succ, List.getD_cons_zero, Zau, Zb3, ↓reduceIte, Za0, Za4, Zaq, Zac, Zan, Zb0, Zab, Zaa, Zah, Zd6, Zbm, Zcw, List.forall_mem_cons, List.not_mem_nil, false_imp_iff, and_self, Zas, Zbg, Zad, Zbs, Zb2, Nat.zero_add, Nat.le_refl, sz31, ag31, hres, hput]

end Go.Abs

namespace Go.Abs
open Go Go.Proofs
set_option maxRecDepth 10000
set_option maxHeartbeats 4000000

theorem w94 (n : Nat) (hn : n ≤ 1073741824) (h : List O) : wc 94 [.osl false true 0 [], .int .i64 (n : Int)] h = some (.val (.osl true false 1 []), h) := by
  refine call_pr ?_
  simp [wpr]; omega
theorem bs105_2' {a b : List (List E)} {e f : Bool} : Ze9 Try.prog 105 2 [(0, .osl e f 1 a), (1, .e (.sl b))] = some (.osl true true 1 [[.sl a], [.sl b]]) := by
  simp [Ze9, el105, sz31, Zed, zo31, replD, fillD, cellsOf, notTup, Zeq, chunk, rowsE, toEs, toE]
theorem len105 {ex fu : Bool} {es : List (List E)} {h : List O} : len0 Try.prog 105 (.osl ex fu 1 es) h = some es.length := len0_of Try.underlying105 Zg0
theorem ix105_0 {a' : List (List E)} {b : List E} {ex fu : Bool} : Zdr Try.prog 105 (.osl ex fu 1 [[.sl a'], b]) (.e (.int .i64 0)) = some (.rptr [.sl a'] 0) := ix_of Try.underlying105 sz31 Zg0 (by omega) rfl rfl (by omega)
theorem ix105_1 {b : List (List E)} {a : List E} {ex fu : Bool} : Zdr Try.prog 105 (.osl ex fu 1 [a, [.sl b]]) (.e (.int .i64 1)) = some (.rptr [.sl b] 0) := ix_of Try.underlying105 sz31 Zg0 (by omega) rfl rfl (by omega)
/-- Bytes behind own bytes that may be none yet. -/
theorem app31m {es xs : List UInt8} {a : D} (ha : slOf a = some (byE xs)) (hl : es.length + xs.length ≤ 1073741824) : Zfi Try.prog 31 (.osl true false 1 (byE es)) a false = some (.osl true false 1 (byE (es ++ xs))) := by
  rw [app31 ha (ok_byE _) (by simpa [byE_len] using hl), byE_app]; rfl

theorem w91 (xs ys : List UInt8) (h : List O) (hx : xs.length ≤ 1000) (hy : ys.length ≤ 1000) : wc 91 [.osl true true 1 [[.sl (byE xs)], [.sl (byE ys)]]] h = some (.val (.osl true false 1 (byE (xs ++ ys))), h) := by
  have w1 : IntKind.i64.wrap (0 + (xs.length : Int)) = (xs.length : Int) := by rw [Zf9 (by omega) (by omega)]; omega
  have w2 : IntKind.i64.wrap ((xs.length : Int) + (ys.length : Int)) = ((xs.length + ys.length : Nat) : Int) := by rw [Zf9 (by omega) (by omega)]; omega
  have c1 : decide ((xs.length : Int) < 0) = false := by simp
  have c2 : decide (((xs.length + ys.length : Nat) : Int) < 0) = false := by simp; omega
  have c3 : IntKind.i64.wrap (0 + 1) = 1 := by decide
  have c4 : IntKind.i64.wrap (1 + 1) = 2 := by decide
  have h94 := w94 (xs.length + ys.length) (by omega)
  have a1 : Zfi Try.prog 31 (.osl true false 1 []) (.e (.sl (byE xs))) false = some (.osl true false 1 (byE xs)) := by have := app31m (es := []) (xs := xs) (a := .e (.sl (byE xs))) slOf_e (by simp; omega); simpa [byE] using this
  have a2 : Zfi Try.prog 31 (.osl true false 1 (byE xs)) (.e (.sl (byE ys))) false = some (.osl true false 1 (byE (xs ++ ys))) := app31m slOf_e (by omega)
  have n2 : ((2 : Nat) : Int) = 2 := rfl
  have hcv : ∀ i, wcv 91 i = [] := fun _ => rfl
  have hres : Try.f91.results.toList = [ResultVar.tmp 2] := rfl
  rw [wc, Zbt rfl Try.func91 rfl]
  simp only [Zbi, List.length_cons, List.length_nil, Nat.reduceAdd, Nat.reduceSub, List.replicate, List.cons_append, List.nil_append, Zaj, Zbz, Zaz, Zfe, Zc3, Za7, Zal, Zar, Za3, Zeg, Zc8, Zeh, Ze8, Zdu, Zae, Zao, Zbb, Zbe, Zbf, Za9, Zbq, List.getElem?_toArray, List.getElem?_cons_succ, List.getElem?_cons_zero, Option.bind_some, ne_eq, reduceCtorEq, not_false_eq_true, implies_true, Bool.false_eq_true, Option.map_some, List.set_cons_succ, List.set_cons_zero, List.getD_cons_succ, List.getD_cons_zero, Zau, Zdj, List.any_cons, List.any_nil, Bool.or_false, ↓reduceIte, Za0, Za6, Zbl, Za4, Zaf, Zaq, Zb7, Zac, Zai, Zaw, Zap, Zan, Zcj, Zdf, Zc2, Int.reduceLT, Zcv, Zbv, Zd0, Zdi, Zb0, Zab, Zaa, Zah, Zat, Zcn, Zcx, Zdh, Zim, Option.bind_eq_bind, Zag, Bool.or_self, Bool.or_true, Nat.zero_add, Option.pure_def, Nat.le_refl, Try.underlying31, sz31, ag31, Za1 (hcv _), Try.ntmps91, hres, back, Zcp, taken, Zbj, Zdo, beq_self_eq_true, Nat.reduceBEq, Zdb, Zcg, Zgo, Zf7, Zev, Zd1, Zc1, shr_fu, Zf2, len105, kx_loop, decide_true, decide_false, ix105_0, ix105_1, len31e, byE_len, w1, w2, c1, c2, c3, c4, h94, a1, a2, n2]

/-- A string's bytes. -/
def sL (s : ByteArray) : List UInt8 := s.data.toList
theorem sL_len {s : ByteArray} : (sL s).length = s.size := rfl
theorem strE_sL (s : ByteArray) : strE s = byE (sL s) := by
  rw [strE, ByteArray.toList_eq]; rfl
theorem conv_bytes {s : ByteArray} (h : s.size ≤ 4294967296) : convD Try.prog 9 31 (.e (.str s)) = some (.osl true false 1 (byE (sL s))) := by
  simp [convD, Try.underlying9, Try.underlying31, Try.underlying5, h, strE_sL]
def textL (s : ByteArray) : List UInt8 := UInt8.ofNat s.size :: sL s

theorem w82 (s : ByteArray) (hs : s.size < 256) (h : List O) : wc 82 [.str s] h = some (.val (.tup [.osl true false 1 (byE (textL s)), .int .i64 0]), h) := by
  have e1 : decide (256 ≤ (s.size : Int)) = false := by simp; omega
  have h91 := w91 [UInt8.ofNat s.size] (sL s) h (by simp) (by rw [sL_len]; omega)
  have hcv : ∀ i, wcv 82 i = [] := fun _ => rfl
  have hres : Try.f82.results.toList = [ResultVar.tmp 2, ResultVar.tmp 3] := rfl
  rw [wc, Zbt rfl Try.func82 rfl]
  simp only [Zbi, List.length_cons, List.length_nil, Nat.reduceAdd, Nat.reduceSub, List.replicate, List.cons_append, List.nil_append, Zaj, Zbz, Zaz, Za7, Zar, Za3, Zae, Zao, Zbb, Zbe, Zbf, Za9, Zbq, List.getElem?_toArray, List.getElem?_cons_zero, Option.bind_some, ne_eq, reduceCtorEq, not_false_eq_true, implies_true, Bool.false_eq_true, Option.map_some, List.set_cons_succ, List.set_cons_zero, List.getD_cons_succ, List.getD_cons_zero, Zau, List.any_cons, List.any_nil, ↓reduceIte, Za0, Za6, Zck, Zby, Za4, Zaf, Zaq, Zac, Zai, Zaw, Zap, Ze7, Zd9, Zan, Zcj, Zem, Ze1, Zd0, Zb0, Zab, Zaa, Zah, Zd6, Zcn, Zbm, Zcx, Zcw, List.forall_mem_cons, List.not_mem_nil, false_imp_iff, and_true, and_self, Option.some.injEq, Prod.mk.injEq, List.map_cons, List.map_nil, Option.bind_eq_bind, Bool.or_self, Nat.zero_add, Zh0, Option.pure_def, Try.underlying9, Za1 (hcv _), Try.ntmps82, hres, e1, Zey Try.underlying3 Try.underlying5, u8_nat, List.zip_cons_cons, List.zip_nil_right, bs31_1, row1, conv_bytes (show s.size ≤ 4294967296 by omega), Zcp, taken, Zbj, Zdo, Nat.reduceBEq, Zdb, Zcg, Zgo, Zf7, Zev, Zd1, Zc1, shr_fu, shr_nf, Zf2, bs105_2', h91]
  rfl

end Go.Abs

namespace Go.Abs
open Go Go.Proofs
set_option maxRecDepth 10000
set_option maxHeartbeats 4000000

theorem app_row0' {b : UInt8} : Zfi Try.prog 31 (.osl false true 0 []) (.osl false true 1 (byE [b])) false = some (.osl true false 1 (byE [b])) := app_row0
def okN (x : Int) : Bool := decide (0 ≤ x) && decide (x ≤ 1099511627776)
/-- Numbers' bytes. -/
def Zdm (xs : List Int) : List UInt8 := xs.flatMap fun x => putL x.toNat
def listB (xs : List Int) : List UInt8 := UInt8.ofNat xs.length :: Zdm xs
theorem putL_len (n : Nat) (hn : n ≤ 1099511627776) : (putL n).length ≤ 7 := by
  have := digs_len n hn
  simp [putL]; omega
theorem numsL_snoc {xs : List Int} {i : Nat} {x : Int} (h : xs[i]? = some x) : Zdm (xs.take (i + 1)) = Zdm (xs.take i) ++ putL x.toNat := by
  have hi := (List.getElem?_eq_some_iff.1 h).1
  rw [List.take_succ_eq_append_getElem hi, (List.getElem?_eq_some_iff.1 h).2]
  simp [Zdm]
theorem numsL_len {xs : List Int} (h : ∀ x ∈ xs, okN x = true) : (Zdm xs).length ≤ 7 * xs.length := by
  induction xs with
  | nil => simp [Zdm]
  | cons x xs ih =>
    have h1 := ih fun y hy => h y (by simp [hy])
    have h2 := h x (by simp)
    simp only [okN, Bool.and_eq_true, decide_eq_true_eq] at h2
    have h3 := putL_len x.toNat (by omega)
    simp only [Zdm, List.flatMap_cons, List.length_append, List.length_cons] at h1 ⊢
    omega

theorem w83 (a : D) (xs : List Int) (ha : Rd a (isE xs)) (hx : xs.length < 256) (h : List O) : wc 83 [a] h = some (.val (if xs.all okN then .tup [.osl true false 1 (byE (listB xs)), .int .i64 0] else .tup [.osl false true 0 [], .int .i64 2]), h) := by
  have la := rd_len ha
  have e1 : decide (256 ≤ (xs.length : Int)) = false := by simp; omega
  have hcv : ∀ i, wcv 83 i = [] := fun _ => rfl
  have hres : Try.f83.results.toList = [ResultVar.tmp 2, ResultVar.tmp 3] := rfl
  rw [wc, Zbt rfl Try.func83 rfl]
  simp only [Zbi, List.length_cons, List.length_nil, Nat.reduceSub, List.replicate, List.cons_append, List.nil_append, Zaj, Zbz, Zc3, Zhm, Zht, Za7, Zar, Za3, Zae, Zao, Zbb, Za9, List.getElem?_toArray, List.getElem?_cons_succ, List.getElem?_cons_zero, Option.bind_some, ne_eq, reduceCtorEq, not_false_eq_true, implies_true, Bool.false_eq_true, Option.map_some, List.set_cons_succ, List.set_cons_zero, List.getD_cons_succ, List.getD_cons_zero, Zau, Zdj, List.any_cons, List.any_nil, Bool.or_false, ↓reduceIte, Za0, Za6, Zck, Zby, Za4, Zaf, Zaq, Zb7, Zac, Zai, Ze7, Zd9, Zan, Zcj, Zem, Ze1, Zd0, Zdi, List.map_cons, List.map_nil, Option.bind_eq_bind, Bool.or_self, Bool.or_true, Nat.zero_add, Option.pure_def, Try.underlying31, Za1 (hcv _), Try.ntmps83, ha.ownD, la, e1, Zey Try.underlying3 Try.underlying5, u8_nat, List.zip_cons_cons, List.zip_nil_right, bs31_1, app_row0', row1, Zcp, taken, Zbj, Zdo, beq_self_eq_true, Nat.reduceBEq, Zdb, Zcg, Zgo, Zf7, Zev, Zd1, Zc1, shr_fu, Zf2]
  refine Zfd (fun (n : Nat) (s : St) => ∃ i : Nat, (i + n = xs.length ∧ ∀ x ∈ xs.take i, okN x = true) ∧ ∃ zs_, s = ⟨mkT [some (a), none, some (.osl true false 1 (byE (UInt8.ofNat xs.length :: Zdm (xs.take i)))), none, none, none, none, none, none, none, none, none, none, none, none, none, some (a), some (.int .i64 xs.length), some (.int .i64 i), none, none, none, none, none, none, none, none, none, none, none, none, none, none, none, none] zs_ 0, [], .no, h⟩) ?_ (xs.length) ⟨0, ⟨by omega, by simp⟩, Zd7 rfl rfl rfl rfl⟩
  rintro n _ ⟨i, hf_o, zs_o, rfl⟩ IH_o
  obtain ⟨hn, ht⟩ := hf_o
  by_cases hi : i < xs.length
  rotate_left
  · have e2 : decide ((i : Int) < xs.length) = false := by simp; omega
    have hz : xs.take i = xs := List.take_of_length_le (by omega)
    rw [hz] at ht
    have hall : xs.all okN = true := by simpa using ht
    simp only [Nat.reduceAdd, Zaj, Zaz, Zfe, Za7, Zar, Za3, Zbr, Zeg, Zeh, Zdu, Zdq, Zae, Zao, Za9, ne_eq, reduceCtorEq, not_false_eq_true, implies_true, Option.map_some, List.set_cons_succ, List.set_cons_zero, List.getD_cons_succ, List.getD_cons_zero, Zau, List.any_cons, List.any_nil, Bool.or_false, ↓reduceIte, Za0, Za6, Za4, Zaq, Zac, Zan, Zc2, Zbv, Zb0, Zab, Zaa, Zah, Zd6, Zcn, Zbm, Zcx, Zcw, List.forall_mem_cons, List.not_mem_nil, false_imp_iff, and_true, and_self, Option.some.injEq, Prod.mk.injEq, mkT, Bool.or_self, Nat.zero_add, Za1 (hcv _), hres, e2, hz, hall, Zcp, taken, Zbj, Zdo, beq_self_eq_true, Zdb, Zcg, Zd1, Zc1]
    rfl
  have e2 : decide ((i : Int) < xs.length) = true := by simp; omega
  have hxi : xs[i]? = some xs[i] := List.getElem?_eq_getElem hi
  generalize xs[i] = x at hxi
  have ia := rd_ix ha hxi
  cases hok : okN x
  · have hall : xs.all okN = false := by
      rw [← Bool.not_eq_true, List.all_eq_true]
      intro hh
      have := hh x (List.mem_of_getElem? hxi)
      rw [hok] at this; cases this
    have h47 := w47_bad x (by simp [okN] at hok; omega)
    have e3 : ((2 : Int) != 0) = true := by decide
    simp only [List.length_cons, List.length_nil, Nat.reduceAdd, Zaj, Zbz, Zaz, Zh6, Zc3, Zht, Za7, Zal, Za3, Zgc, kBlk_gto, kLoop_gto, Zdq, Zae, Zao, Zbe, Zbf, Za9, Zbq, List.getElem?_cons_succ, List.getElem?_cons_zero, Option.bind_some, ne_eq, reduceCtorEq, not_false_eq_true, implies_true, Bool.false_eq_true, Option.map_some, List.set_cons_succ, List.set_cons_zero, List.getD_cons_succ, List.getD_cons_zero, Zau, Zdj, List.any_cons, List.any_nil, Bool.or_false, ↓reduceIte, Za0, Za6, Zbl, Zc7, Za4, Zaf, Zaq, Zac, Zai, Zaw, Zap, Zan, Zcj, Zel, Zc2, Ze0, Zbv, Zb0, Zab, Zaa, Zah, Zd6, Zcn, Zbm, Zcx, Zcw, List.forall_mem_cons, List.not_mem_nil, false_imp_iff, and_self, mkT, Zdh, Zim, Zag, Bool.or_self, Bool.or_true, Nat.zero_add, Nat.le_refl, sz3, ag3, Za1 (hcv _), hres, e2, ha.ownD, ia, h47, e3, hall, Zh7, Zi0, fl_seq, Zi4, Zi5, Zi3, fl_ret, Zh9, fl_cond, fl_block, beq_self_eq_true, Zdd, Zgp, Zj1, back, Zcp, taken, Zbj, Zdo, Nat.reduceBEq]
  · obtain ⟨m, rfl⟩ : ∃ m : Nat, x = m := ⟨x.toNat, by simp [okN] at hok; omega⟩
    have hm : m ≤ 1099511627776 := by simp [okN] at hok; omega
    have h47 := w47 m hm
    have e3 : ((0 : Int) != 0) = false := by decide
    have hnl := numsL_len ht
    have hpl := putL_len m hm
    have happ : Zfi Try.prog 31 (.osl true false 1 (byE (UInt8.ofNat xs.length :: Zdm (xs.take i)))) (.e (.sl (byE (putL m)))) false = some (.osl true false 1 (byE (UInt8.ofNat xs.length :: Zdm (xs.take (i + 1))))) := by
      rw [app31m slOf_e (by simp at hnl ⊢; omega), numsL_snoc hxi]; simp
    simp only [List.length_cons, List.length_nil, Nat.reduceAdd, Zaj, Zbz, Zc3, Za7, Zal, Zar, Za3, Zc8, Ze8, Zae, Zao, Zbb, Zbe, Zbf, Za9, Zbq, List.getElem?_toArray, List.getElem?_cons_succ, List.getElem?_cons_zero, Option.bind_some, ne_eq, reduceCtorEq, not_false_eq_true, implies_true, Bool.false_eq_true, Option.map_some, List.set_cons_succ, List.set_cons_zero, List.getD_cons_succ, List.getD_cons_zero, Zau, List.any_cons, List.any_nil, Bool.or_false, ↓reduceIte, Za0, Za6, Zbl, Zc7, Za4, Zaf, Zac, Zai, Zaw, Zap, Zan, Zdf, Zel, Zc2, Zcv, Ze0, Zbv, Zdi, mkT, Zdh, Zim, Zag, Bool.or_self, Bool.or_true, Nat.zero_add, Nat.le_refl, Try.underlying31, sz3, ag3, Za1 (hcv _), e2, ha.ownD, ia, h47, e3, happ, inc64 hi (show xs.length ≤ 1099511627776 by omega), beq_self_eq_true, Zdd, Zgp, back, Zcp, taken, Zbj, Zdo, Nat.reduceBEq, Zdb, Zcg, Zd1, Zc1]
    refine IH_o (xs.length - (i + 1)) _ (by omega) ⟨i + 1, ⟨by omega, fun y hy => ?_⟩, Zd7 rfl rfl rfl rfl⟩
    rw [List.take_succ_eq_append_getElem hi] at hy
    simp only [List.mem_append, List.mem_singleton] at hy
    rcases hy with hy | hy
    · exact ht y hy
    · have := (List.getElem?_eq_some_iff.1 hxi).2
      rw [hy, this]; exact hok

end Go.Abs

namespace Go.Abs
open Go Go.Proofs
set_option maxRecDepth 10000
set_option maxHeartbeats 4000000

/-- A number's value, the highest byte first. -/
def valB (xs : List UInt8) : Nat := xs.foldl (fun n b => n * 256 + b.toNat) 0
/-- What is taken: the number, and what is behind it. -/
inductive TakeR where
  | short
  | form
  | ok (n : Nat) (rest : List UInt8)
def takeB : List UInt8 → TakeR
  | [] => .short
  | m :: xs =>
    if 6 < m.toNat then .form else
    if xs.length < m.toNat then .short else
    if m.toNat = 0 then .ok 0 xs else
    if 0 < (xs.getD 0 0).toNat ∧ valB (xs.take m.toNat) ≤ 1099511627776 then .ok (valB (xs.take m.toNat)) (xs.drop m.toNat) else .form
def TakeR.d : TakeR → D
  | .short => .tup [.int .i64 0, .osl false true 0 [], .int .i64 11]
  | .form => .tup [.int .i64 0, .osl false true 0 [], .int .i64 12]
  | .ok n rest => .tup [.int .i64 (n : Int), .osl true false 1 (byE rest), .int .i64 0]

theorem valB_lt : ∀ (k : Nat) (xs : List UInt8), xs.length ≤ k → valB xs < 256 ^ k := by
  intro k
  induction k with
  | zero => intro xs h; have : xs = [] := List.length_eq_zero_iff.1 (by omega); subst this; simp [valB]
  | succ k ih =>
    intro xs h
    by_cases hx : xs = []
    · subst hx; simp [valB]; exact Nat.pos_of_ne_zero (by simp)
    · have e := (List.dropLast_concat_getLast hx).symm
      rw [e, valB, List.foldl_append]
      have := ih xs.dropLast (by simp; omega)
      unfold valB at this
      simp only [List.foldl_cons, List.foldl_nil]
      have hb := (xs.getLast hx).toNat_lt
      rw [Nat.pow_succ]; omega
/-- One byte more. -/
theorem shl8_or (n : Nat) (b : UInt8) (hn : n < 2 ^ 48) : IntKind.i64.wrap ((BitVec.ofInt 64 (IntKind.i64.wrap ((n : Int) * 2 ^ min 8 64)) ||| BitVec.ofInt 64 (IntKind.i64.wrap (b.toNat : Int))).toNat : Int) = ((n * 256 + b.toNat : Nat) : Int) := by
  have hb := b.toNat_lt
  have h1 : IntKind.i64.wrap ((n : Int) * 2 ^ min 8 64) = ((n * 256 : Nat) : Int) := by
    rw [show (2 : Int) ^ min 8 64 = 256 by decide, Zf9 (by omega) (by omega)]; omega
  have h2 : IntKind.i64.wrap (b.toNat : Int) = (b.toNat : Int) := Zf9 (by omega) (by omega)
  have h3 : ∀ m : Nat, m < 2 ^ 64 → (BitVec.ofInt 64 (m : Int)).toNat = m := by
    intro m hm
    rw [BitVec.toNat_ofInt]
    omega
  rw [h1, h2, BitVec.toNat_or, h3 _ (by omega), h3 _ (by omega)]
  have h4 : n * 256 ||| b.toNat = n * 256 + b.toNat := by
    have := Nat.shiftLeft_add_eq_or_of_lt (i := 8) (b := b.toNat) (by omega) n
    rw [Nat.shiftLeft_eq] at this
    rw [show (2 : Nat) ^ 8 = 256 by decide] at this
    exact this.symm
  rw [h4, Zf9 (by omega) (by omega)]


theorem valB_snoc (xs : List UInt8) (b : UInt8) : valB (xs ++ [b]) = valB xs * 256 + b.toNat := by simp [valB, List.foldl_append]
theorem valB_48 {xs : List UInt8} (h : xs.length ≤ 6) : valB xs < 2 ^ 48 := by
  have := valB_lt 6 xs h
  have e : (256 : Nat) ^ 6 = 2 ^ 48 := by decide
  rw [← e]; exact this

theorem shl8_or' (n : Nat) (b : UInt8) (hn : n < 2 ^ 48) : IntKind.i64.wrap ((BitVec.ofInt IntKind.i64.bits (IntKind.i64.wrap ((n : Int) * 2 ^ min 8 64)) ||| BitVec.ofInt IntKind.i64.bits (IntKind.i64.wrap (b.toNat : Int))).toNat : Int) = ((n * 256 + b.toNat : Nat) : Int) := shl8_or n b hn
theorem w84 (a : D) (xs : List UInt8) (ha : Rd a (byE xs)) (hx : xs.length ≤ 100000) (h : List O) : wc 84 [a] h = some (.val (takeB xs).d, h) := by
  have la := by_len ha
  have hcv : ∀ i, wcv 84 i = [] := fun _ => rfl
  have hres : Try.f84.results.toList = [ResultVar.tmp 2, ResultVar.tmp 3, ResultVar.tmp 4] := rfl
  rw [wc, Zbt rfl Try.func84 rfl]
  cases xs with
  | nil =>
    have e1 : (((0 : Nat) : Int) == 0) = true := by decide
    simp only [Zbi, List.length_cons, List.length_nil, Nat.reduceSub, List.replicate, List.cons_append, List.nil_append, Zaj, Zbz, Zaz, Zh6, Zhm, Zht, Za7, Zal, Za3, Zgc, Zdq, Zae, Zao, Zbb, Za9, List.getElem?_toArray, List.getElem?_cons_zero, Option.bind_some, ne_eq, reduceCtorEq, not_false_eq_true, implies_true, Option.map_some, List.set_cons_succ, List.set_cons_zero, List.getD_cons_succ, List.getD_cons_zero, Zau, Zdj, ↓reduceIte, Za2, Za0, Za6, Za4, Zaq, Zac, Zai, Zan, Zcj, Zb8, Zay, Zd0, Zb0, Zab, Zaa, Zah, Zea, Zcn, Zbm, Zcx, Zcw, List.forall_mem_cons, List.not_mem_nil, false_imp_iff, and_true, and_self, Option.some.injEq, Prod.mk.injEq, Option.bind_eq_bind, Nat.zero_add, Option.pure_def, Za1 (hcv _), Try.ntmps84, hres, ha.ownD, la, e1, Zh7, Zi0, fl_seq, Zi4, Zi5, Zi3, Zh9, fl_cond, fl_block, beq_self_eq_true]
    rfl
  | cons m ys =>
  have hm := m.toNat_lt
  have la : ∀ H, len0 Try.prog 31 a H = some (ys.length + 1) := fun H => by rw [la]; rfl
  have e1 : (((ys.length + 1 : Nat) : Int) == 0) = false := by simp; omega
  have i0 : Zdr Try.prog 31 a (.e (.int .i64 0)) = some (.rptr [.int .u8 (m.toNat : Int)] 0) := by_ix (i := 0) ha rfl
  have wm : IntKind.i64.wrap (m.toNat : Int) = (m.toNat : Int) := Zf9 (by omega) (by omega)
  generalize hM : m.toNat = M at *
  simp only [takeB, hM]
  by_cases h6 : 6 < M
  · have e2 : decide (6 < (M : Int)) = true := by simp; omega
    simp only [Zbi, List.length_cons, List.length_nil, Nat.reduceSub, List.replicate, List.cons_append, List.nil_append, Zaj, Zbz, Zaz, Zh6, Zhm, Zht, Za7, Zal, Zar, Za3, Zgc, Zdq, Zae, Zao, Zbb, Za9, List.getElem?_toArray, List.getElem?_cons_zero, Option.bind_some, ne_eq, reduceCtorEq, not_false_eq_true, implies_true, Option.map_some, List.set_cons_succ, List.set_cons_zero, List.getD_cons_succ, List.getD_cons_zero, Zau, Zdj, ↓reduceIte, Za2, Za0, Za6, Zck, Zbl, Za4, Zaf, Zaq, Zac, Zai, Zan, Zcj, Zb8, Zf6, Zay, Zei, Zd0, Zb0, Zab, Zaa, Zah, Zea, Zcn, Zbm, Zcx, Zcw, List.forall_mem_cons, List.not_mem_nil, false_imp_iff, and_true, and_self, Option.some.injEq, Prod.mk.injEq, Zdh, Zim, Option.bind_eq_bind, Zag, Nat.zero_add, Option.pure_def, Nat.le_refl, sz5, ag5, Za1 (hcv _), Try.ntmps84, hres, ha.ownD, la, e1, i0, Zey Try.underlying5 Try.underlying3, wm, e2, h6, Zh7, Zi0, fl_seq, Zi4, Zi5, Zi3, Zh9, fl_cond, fl_block, beq_self_eq_true]
    rfl
  have e2 : decide (6 < (M : Int)) = false := by simp; omega
  by_cases hs : ys.length < M
  · have e3 : decide (((ys.length + 1 : Nat) : Int) ≤ (M : Int)) = true := by simp; omega
    simp only [Zbi, List.length_cons, List.length_nil, Nat.reduceSub, List.replicate, List.cons_append, List.nil_append, Zaj, Zbz, Zaz, Zh6, Zhm, Zht, Za7, Zal, Zar, Za3, Zgc, Zdq, Zae, Zao, Zbb, Za9, List.getElem?_toArray, List.getElem?_cons_zero, Option.bind_some, ne_eq, reduceCtorEq, not_false_eq_true, implies_true, Option.map_some, List.set_cons_succ, List.set_cons_zero, List.getD_cons_succ, List.getD_cons_zero, Zau, Zdj, ↓reduceIte, Za2, Za0, Za6, Zck, Zbl, Za4, Zaf, Zaq, Zac, Zai, Zan, Zcj, Zb8, Zfg, Zf6, Zay, Zeo, Zei, Zd0, Zb0, Zab, Zaa, Zah, Zea, Zcn, Zbm, Zcx, Zcw, List.forall_mem_cons, List.not_mem_nil, false_imp_iff, and_true, and_self, Option.some.injEq, Prod.mk.injEq, Zdh, Zim, Option.bind_eq_bind, Zag, Nat.zero_add, Option.pure_def, Nat.le_refl, sz5, ag5, Za1 (hcv _), Try.ntmps84, hres, ha.ownD, la, e1, i0, Zey Try.underlying5 Try.underlying3, wm, e2, e3, h6, hs, Zh7, Zi0, fl_seq, Zi4, Zi5, Zi3, Zh9, fl_cond, fl_block, beq_self_eq_true]
    rfl
  have e3 : decide (((ys.length + 1 : Nat) : Int) ≤ (M : Int)) = false := by simp; omega
  have w1 : IntKind.i64.wrap (1 + (M : Int)) = ((1 + M : Nat) : Int) := by rw [Zf9 (by omega) (by omega)]; omega
  have s1 : sliceD Try.prog 31 a (some (.e (.int .i64 1))) (some (.e (.int .i64 ((1 + M : Nat) : Int)))) none = some (.e (.sl (byE (ys.take M)))) := by
    rw [by_slice (h := 1 + M) (l := 1) ha (by rw [bndO, bnd_nat (by simp; omega)]) (by rw [bndO, show (1 : Int) = ((1 : Nat) : Int) by rfl, bnd_nat (by omega)])]
    rw [show 1 + M = M + 1 by omega, List.take_succ_cons, List.drop_succ_cons, List.drop_zero]
  have s2 : sliceD Try.prog 31 a (some (.e (.int .i64 ((1 + M : Nat) : Int)))) none none = some (.e (.sl (byE (ys.drop M)))) := by
    rw [by_slice (h := (m :: ys).length) (l := 1 + M) ha rfl (by rw [bndO, bnd_nat (by simp; omega)])]
    rw [List.take_length, show 1 + M = M + 1 by omega, List.drop_succ_cons]
  have hc := clone31 (a := .e (.sl (byE (ys.drop M)))) (xs := ys.drop M) Rd.e (by simp at hx ⊢; omega)
  have hzl : (ys.take M).length = M := by simp; omega
  have lz : ∀ h, len0 Try.prog 31 (.e (.sl (byE (ys.take M)))) h = some M := fun h => by rw [len31e, byE_len, hzl]
  simp only [Zbi, List.length_cons, List.length_nil, Nat.reduceSub, List.replicate, List.cons_append, List.nil_append, Zaj, Zbz, Zc3, Zhm, Zht, Za7, Zar, Za3, Zae, Zao, Zbb, Za9, List.getElem?_toArray, List.getElem?_cons_zero, Option.bind_some, ne_eq, reduceCtorEq, not_false_eq_true, implies_true, Option.map_some, List.set_cons_succ, List.set_cons_zero, List.getD_cons_succ, List.getD_cons_zero, Zau, ↓reduceIte, Za2, Zep, Za0, Za6, Zck, Zg9, Zbl, Za4, Zaf, Zaq, Zac, Zai, Zan, Zcj, Zg8, Zg7, Zdf, Zb8, Zfg, Zf6, Zcv, Zay, Zeo, Zei, Zd0, Zdh, Zim, Option.bind_eq_bind, Zag, Nat.zero_add, Option.pure_def, Nat.le_refl, sz5, ag5, Za1 (hcv _), Try.ntmps84, ha.ownD, la, e1, i0, Zey Try.underlying5 Try.underlying3, wm, e2, e3, h6, hs, w1, s1, lz]
  refine Zfd (fun (n : Nat) (s : St) => ∃ i : Nat, (i + n = M) ∧ ∃ zs_, s = ⟨mkT [some (a), none, some (.int .i64 (valB ((ys.take M).take i) : Int)), some (.osl false true 0 []), some (.int .i64 11), some (.int .i64 M), none, none, none, none, none, none, none, none, none, none, none, none, none, none, none, none, none, none, some (.e (.sl (byE (ys.take M)))), some (.int .i64 M), some (.int .i64 i), none, none, none, none, none, none, none, none, none, none, none, none, none, none, none, none, none, none, none, none, none, none, none, none, none, none, none, none] zs_ 0, [], .no, h⟩) ?_ (M) ⟨0, by omega, Zd7 rfl rfl rfl rfl⟩
  rintro n _ ⟨i, hf_o, zs_o, rfl⟩ IH_o
  have hn := hf_o
  by_cases hi : i < M
  rotate_left
  · have e4 : decide ((i : Int) < (M : Int)) = false := by simp; omega
    have hz : (ys.take M).take i = ys.take M := List.take_of_length_le (by omega)
    rw [hz]
    by_cases h0 : M = 0
    · subst h0
      have e5 : (((0 : Nat) : Int) == 0) = true := by decide
      have hv : valB (ys.take 0) = 0 := rfl
      rw [hv]
      rw [List.drop_zero] at hc s2
      simp only [List.length_cons, List.length_nil, Nat.reduceAdd, Zaj, Zaz, Zfe, Za7, Zal, Zar, Za3, Zbr, Zeg, Zeh, Zdu, Zdq, Zae, Zao, Zbe, Zbf, Zak, Za9, Zbq, Zdl, kG_undef, St.put, List.getElem?_toArray, List.getElem?_cons_succ, List.getElem?_cons_zero, Option.bind_some, Nat.reduceLT, ne_eq, reduceCtorEq, not_false_eq_true, implies_true, Bool.not_false, Bool.false_eq_true, Option.map_some, List.set_cons_succ, List.set_cons_zero, List.getD_cons_succ, List.getD_cons_zero, Zau, List.any_cons, List.any_nil, Bool.or_false, ↓reduceIte, Za0, Za6, Zam, Zg9, Za4, Zaf, Zaq, Zb7, Zac, Zai, Zaw, Zap, Zan, Zax, Zg8, Zg7, Zdf, Zb8, Zc2, Zcv, Zay, Zbv, Zb0, Zab, Zaa, Zah, Zea, Zcn, Zbm, Zcx, Zcw, List.forall_mem_cons, List.not_mem_nil, false_imp_iff, and_true, and_self, Option.some.injEq, Prod.mk.injEq, mkT, List.take_zero, Bool.or_self, Bool.or_true, Nat.add_zero, Nat.zero_add, Za1 (hcv _), hres, e4, e5, ha.ownD, w1, s2, hc, beq_self_eq_true, Zcp, taken, Zbj, Zdo, Nat.reduceBEq, Zdb, Zcg, Zd1, Zc1]
      rfl
    · have e5 : ((M : Int) == 0) = false := by simp; omega
      obtain ⟨y, zs, rfl⟩ : ∃ y zs, ys = y :: zs := by
        cases ys with
        | nil => simp at hs; omega
        | cons y zs => exact ⟨y, zs, rfl⟩
      have i1 : Zdr Try.prog 31 a (.e (.int .i64 1)) = some (.rptr [.int .u8 (y.toNat : Int)] 0) := by_ix (i := 1) ha rfl
      have hg : (y :: zs).getD 0 0 = y := rfl
      rw [if_neg h0, hg]
      generalize hV : valB ((y :: zs).take M) = V
      by_cases hy : 0 < y.toNat
      · have e6 : decide (0 < (y.toNat : Int)) = true := by simp; omega
        by_cases hv : V ≤ 1099511627776
        · have e7 : decide ((V : Int) ≤ 1099511627776) = true := by simp; omega
          rw [if_pos ⟨hy, hv⟩]
          simp only [List.length_cons, List.length_nil, Nat.reduceAdd, Zaj, Zaz, Zfe, Za7, Zal, Zar, Za3, Zbr, Zeg, Zeh, Zdu, Zdq, Zae, Zao, Zbe, Zbf, Zak, Za9, Zbq, Zc0, List.getElem?_toArray, List.getElem?_cons_succ, List.getElem?_cons_zero, Option.bind_some, Nat.reduceLT, ne_eq, reduceCtorEq, not_false_eq_true, implies_true, Bool.false_eq_true, Option.map_some, List.set_cons_succ, List.set_cons_zero, List.getD_cons_succ, List.getD_cons_zero, Zau, List.any_cons, List.any_nil, Bool.or_false, ↓reduceIte, Za0, Za6, Zam, Zg9, Zbl, Za4, Zaf, Zaq, Zac, Zai, Zaw, Zap, Zan, Zg8, Zg7, Zdf, Zb8, Zc2, Zfg, Zf6, Zcv, Zay, Zbv, Zeo, Zei, Zb0, Zab, Zaa, Zah, Zea, Zcn, Zbm, Zcx, Zcw, List.forall_mem_cons, List.not_mem_nil, false_imp_iff, and_true, and_self, Option.some.injEq, Prod.mk.injEq, mkT, Zdh, Zim, Zag, Bool.or_self, Bool.or_true, Nat.zero_add, Nat.le_refl, sz5, ag5, Za1 (hcv _), hres, e4, e5, e6, e7, ha.ownD, i1, w1, s2, hc, beq_self_eq_true, back, Zcp, taken, Zbj, Zdo, Nat.reduceBEq, Zdb, Zcg, Zd1, Zc1]
          rfl
        · have e7 : decide ((V : Int) ≤ 1099511627776) = false := by simp; omega
          rw [if_neg (fun x => hv x.2)]
          simp only [List.length_cons, List.length_nil, Nat.reduceAdd, Zaj, Zbz, Zaz, Zfe, kx_label, Za7, Zar, Za3, Zeg, Zeh, Zdu, Zdq, Zae, Zao, Zak, Za9, Zc0, List.getElem?_toArray, List.getElem?_cons_succ, List.getElem?_cons_zero, Option.bind_some, Nat.reduceLT, ne_eq, reduceCtorEq, not_false_eq_true, implies_true, Bool.false_eq_true, Option.map_some, List.set_cons_succ, List.set_cons_zero, List.getD_cons_succ, List.getD_cons_zero, Zau, Zdj, List.any_cons, List.any_nil, Bool.or_false, ↓reduceIte, Za0, Za6, Zam, Zbl, Za4, Zaf, Zaq, Zac, Zai, Zan, Zcj, Zb8, Zc2, Zfg, Zf6, Zay, Zbv, Zeo, Zei, Zb0, Zab, Zaa, Zah, Zea, Zcn, Zbm, Zcx, Zcw, List.forall_mem_cons, List.not_mem_nil, false_imp_iff, and_true, and_self, Option.some.injEq, Prod.mk.injEq, mkT, Zdh, Zim, Zag, Bool.or_self, Bool.or_true, Nat.zero_add, Nat.le_refl, sz5, ag5, Za1 (hcv _), hres, e4, e5, e6, e7, ha.ownD, i1, beq_self_eq_true, back, Zcp, taken, Zbj, Zdo]
          rfl
      · have e6 : decide (0 < (y.toNat : Int)) = false := by simp; omega
        rw [if_neg (fun x => hy x.1)]
        simp only [List.length_cons, List.length_nil, Nat.reduceAdd, Zaj, Zbz, Zaz, Zfe, kx_label, Za7, Zar, Za3, Zeg, Zeh, Zdu, Zdq, Zae, Zao, Zak, Za9, Zc0, Zdl, St.put, List.getElem?_toArray, List.getElem?_cons_succ, List.getElem?_cons_zero, Option.bind_some, Nat.reduceLT, ne_eq, reduceCtorEq, not_false_eq_true, implies_true, Bool.not_true, Bool.false_eq_true, Option.map_some, List.set_cons_succ, List.set_cons_zero, List.getD_cons_succ, List.getD_cons_zero, Zau, Zdj, List.any_cons, List.any_nil, Bool.or_false, ↓reduceIte, Za0, Za6, Zam, Zbl, Za4, Zaf, Zaq, Zb7, Zac, Zai, Zan, Zax, Zcj, Zb8, Zc2, Zf6, Zay, Zbv, Zei, Zb0, Zab, Zaa, Zah, Zea, Zcn, Zbm, Zcx, Zcw, List.forall_mem_cons, List.not_mem_nil, false_imp_iff, and_true, and_self, Option.some.injEq, Prod.mk.injEq, mkT, Zdh, Zim, Zag, Bool.or_self, Bool.or_true, Nat.zero_add, Nat.le_refl, sz5, ag5, Za1 (hcv _), hres, e4, e5, e6, ha.ownD, i1, beq_self_eq_true, back, Zcp, taken, Zbj, Zdo]
        rfl
  have e4 : decide ((i : Int) < (M : Int)) = true := by simp; omega
  have hbi : (ys.take M)[i]? = some ((ys.take M)[i]'(by omega)) := List.getElem?_eq_getElem (by omega)
  have htk : (ys.take M).take (i + 1) = (ys.take M).take i ++ [(ys.take M)[i]'(by omega)] := List.take_succ_eq_append_getElem (by omega)
  generalize (ys.take M)[i]'(by omega) = b at hbi htk
  have ib := by_ix (a := .e (.sl (byE (ys.take M)))) Rd.e hbi
  have hor := shl8_or' (valB ((ys.take M).take i)) b (valB_48 (by simp; omega))
  rw [← valB_snoc, ← htk] at hor
  simp only [IntKind.bits] at hor
  simp only [List.length_cons, List.length_nil, Nat.reduceAdd, Zaj, Zbz, Zc3, Za7, Zal, Za3, Zc8, Ze8, Zae, Zao, Za9, List.getElem?_cons_zero, Option.bind_some, ne_eq, reduceCtorEq, not_false_eq_true, implies_true, Bool.false_eq_true, Option.map_some, List.set_cons_succ, List.set_cons_zero, List.getD_cons_succ, List.getD_cons_zero, Zau, List.any_cons, List.any_nil, Bool.or_false, ↓reduceIte, Za0, Za6, Zck, Zbl, Za4, Zaf, Zac, Zai, Zan, Zdf, binD_or, Zc2, binD_shl, Zhi, Int.reduceLT, Int.reduceToNat, IntKind.bits, Zcv, arith_or, Zbv, mkT, Zdh, Zim, Zag, Bool.or_self, Nat.zero_add, Nat.le_refl, sz5, ag5, Za1 (hcv _), e4, ib, Zey Try.underlying5 Try.underlying3, hor, inc64 hi (show M ≤ 1099511627776 by omega), beq_self_eq_true, back, Zcp, taken, Zbj, Zdo, Nat.reduceBEq]
  refine IH_o (M - (i + 1)) _ (by omega) ⟨i + 1, by omega, Zd7 rfl rfl rfl rfl⟩

end Go.Abs

namespace Go.Abs
open Go Go.Proofs
set_option maxRecDepth 10000
set_option maxHeartbeats 4000000

/-- What is taken: the text's bytes, and what is behind it. -/
def takeT : List UInt8 → Option (List UInt8 × List UInt8)
  | [] => none
  | m :: ys => if ys.length < m.toNat then none else some (ys.take m.toNat, ys.drop m.toNat)
def textD : Option (List UInt8 × List UInt8) → D
  | none => .tup [.str { data := #[] }, .osl false true 0 [], .int .i64 11]
  | some (s, rest) => .tup [.str (BA s), .osl true false 1 (byE rest), .int .i64 0]

theorem w85 (a : D) (xs : List UInt8) (ha : Rd a (byE xs)) (hx : xs.length ≤ 100000) (h : List O) : wc 85 [a] h = some (.val (textD (takeT xs)), h) := by
  have la := by_len ha
  have hcv : ∀ i, wcv 85 i = [] := fun _ => rfl
  have hres : Try.f85.results.toList = [ResultVar.tmp 2, ResultVar.tmp 3, ResultVar.tmp 4] := rfl
  rw [wc, Zbt rfl Try.func85 rfl]
  cases xs with
  | nil =>
    have e1 : (((0 : Nat) : Int) == 0) = true := by decide
    simp only [Zbi, List.length_cons, List.length_nil, Nat.reduceAdd, Nat.reduceSub, List.replicate, List.cons_append, List.nil_append, Zaj, Zaz, Za7, Zal, Za3, Zbr, Zae, Zao, Zbb, Zak, Za9, Zdl, St.put, List.getElem?_toArray, List.getElem?_cons_succ, List.getElem?_cons_zero, Option.bind_some, Nat.reduceLT, ne_eq, reduceCtorEq, not_false_eq_true, implies_true, Bool.not_false, Option.map_some, List.set_cons_succ, List.set_cons_zero, List.getD_cons_succ, List.getD_cons_zero, Zau, Zdj, ↓reduceIte, Za2, Za0, Za6, Zam, Za4, Zaq, Zb7, Zac, Zai, Zan, Zax, Zj2, Zcj, Zb8, Zay, Zd0, Zb0, Zab, Zaa, Zah, Zea, Zcn, Zbm, Zcx, Zcw, List.forall_mem_cons, List.not_mem_nil, false_imp_iff, and_true, and_self, Option.some.injEq, Prod.mk.injEq, Option.bind_eq_bind, Nat.zero_add, Option.pure_def, Za1 (hcv _), Try.ntmps85, hres, ha.ownD, la, e1]
    rfl
  | cons m ys =>
  have hm := m.toNat_lt
  have la : ∀ H, len0 Try.prog 31 a H = some (ys.length + 1) := fun H => by rw [la]; rfl
  have e1 : (((ys.length + 1 : Nat) : Int) == 0) = false := by simp; omega
  have i0 : Zdr Try.prog 31 a (.e (.int .i64 0)) = some (.rptr [.int .u8 (m.toNat : Int)] 0) := by_ix (i := 0) ha rfl
  have wm : IntKind.i64.wrap (m.toNat : Int) = (m.toNat : Int) := Zf9 (by omega) (by omega)
  have wl : IntKind.i64.wrap (((ys.length + 1 : Nat) : Int) - 1) = (ys.length : Int) := by simp at hx; rw [Zf9 (by omega) (by omega)]; omega
  generalize hM : m.toNat = M at *
  simp only [takeT, hM]
  by_cases hs : ys.length < M
  · have e2 : decide ((ys.length : Int) < (M : Int)) = true := by simp; omega
    simp only [Zbi, List.length_cons, List.length_nil, Nat.reduceAdd, Nat.reduceSub, List.replicate, List.cons_append, List.nil_append, Zaj, Zaz, Za7, Zal, Za3, Zbr, Zae, Zao, Zbb, Zak, Za9, Zc0, List.getElem?_toArray, List.getElem?_cons_succ, List.getElem?_cons_zero, Option.bind_some, Nat.reduceLT, ne_eq, reduceCtorEq, not_false_eq_true, implies_true, Bool.false_eq_true, Option.map_some, List.set_cons_succ, List.set_cons_zero, List.getD_cons_succ, List.getD_cons_zero, Zau, Zdj, ↓reduceIte, Za2, Za0, Za6, Zck, Zam, Zbl, Za4, Zaf, Zaq, Zac, Zai, Zan, Zj2, Zcj, Zgn, Zb8, Zc2, Zft, Zay, Zbv, Zd0, Zb0, Zab, Zaa, Zah, Zea, Zcn, Zbm, Zcx, Zcw, List.forall_mem_cons, List.not_mem_nil, false_imp_iff, and_true, and_self, Option.some.injEq, Prod.mk.injEq, Zdh, Zim, Option.bind_eq_bind, Zag, Nat.zero_add, Option.pure_def, Nat.le_refl, sz5, ag5, Za1 (hcv _), Try.ntmps85, hres, ha.ownD, la, e1, i0, wl, Zey Try.underlying5 Try.underlying3, wm, e2, hs]
    rfl
  have e2 : decide ((ys.length : Int) < (M : Int)) = false := by simp; omega
  have w1 : IntKind.i64.wrap (1 + (M : Int)) = ((1 + M : Nat) : Int) := by rw [Zf9 (by omega) (by omega)]; omega
  have s1 : sliceD Try.prog 31 a (some (.e (.int .i64 1))) (some (.e (.int .i64 ((1 + M : Nat) : Int)))) none = some (.e (.sl (byE (ys.take M)))) := by
    rw [by_slice (h := 1 + M) (l := 1) ha (by rw [bndO, bnd_nat (by simp; omega)]) (by rw [bndO, show (1 : Int) = ((1 : Nat) : Int) by rfl, bnd_nat (by omega)])]
    rw [show 1 + M = M + 1 by omega, List.take_succ_cons, List.drop_succ_cons, List.drop_zero]
  have s2 : sliceD Try.prog 31 a (some (.e (.int .i64 ((1 + M : Nat) : Int)))) none none = some (.e (.sl (byE (ys.drop M)))) := by
    rw [by_slice (h := (m :: ys).length) (l := 1 + M) ha rfl (by rw [bndO, bnd_nat (by simp; omega)])]
    rw [List.take_length, show 1 + M = M + 1 by omega, List.drop_succ_cons]
  have hc := clone31 (a := .e (.sl (byE (ys.drop M)))) (xs := ys.drop M) Rd.e (by simp at hx ⊢; omega)
  have hcs := conv_str (a := .e (.sl (byE (ys.take M)))) (xs := ys.take M) slOf_e
  simp only [Zbi, List.length_cons, List.length_nil, Nat.reduceAdd, Nat.reduceSub, List.replicate, List.cons_append, List.nil_append, Zaj, Zbz, Za7, Zar, Za3, Zae, Zao, Zbb, Zak, Za9, Zc0, List.getElem?_toArray, List.getElem?_cons_succ, List.getElem?_cons_zero, Option.bind_some, Nat.reduceLT, ne_eq, reduceCtorEq, not_false_eq_true, implies_true, Bool.false_eq_true, Option.map_some, List.set_cons_succ, List.set_cons_zero, List.getD_cons_succ, List.getD_cons_zero, Zau, ↓reduceIte, Za2, Za0, Za6, Zck, Zam, Zbl, Zaf, Zaq, Zac, Zai, Zan, Zj2, Zcj, Zgn, Zb8, Zc2, Zft, Zay, Zbv, Zd0, Option.some.injEq, Zdh, Zim, Option.bind_eq_bind, Zag, Nat.zero_add, Option.pure_def, Nat.le_refl, sz5, ag5, Za1 (hcv _), Try.ntmps85, ha.ownD, la, e1, i0, wl, Zey Try.underlying5 Try.underlying3, wm, e2, hs]
  refine (Zf8 (l := plan85_3) (by exact plan85_3_eq)).trans ?_
  simp only [List.length_cons, List.length_nil, List.cons_append, List.nil_append, Zaj, Za3, List.getElem?_toArray, List.getElem?_cons_succ, List.getElem?_cons_zero, Option.bind_some, ne_eq, reduceCtorEq, not_false_eq_true, implies_true, Bool.not_false, Option.map_some, List.set_cons_succ, List.set_cons_zero, List.getD_cons_succ, List.getD_cons_zero, Zau, own_rptr, List.any_cons, List.any_nil, ↓reduceIte, Za0, Za6, Zck, Zg9, Zbl, Za4, Zaf, Zac, Zai, Zan, Zg8, Zg7, Zdf, Zcv, and_self, List.toList_toArray, Option.some.injEq, Ze5, kd_l, Zc5, Zc4, kd_r, Zcf, Zee, Zch, Zbn, Zc6, Zba, Zdg, Zcs, Zci, exLd_ro, Zbx, Zbw, Zdc, Zg1, Zhj, lo_slice, Zfl, Op.operands, Ze2, List.foldl_nil, Array.toList_append, List.append_nil, Zdh, Zim, Bool.or_self, Nat.zero_add, Nat.le_refl, sz5, ag5, hcv, kd_h, Zca, Zex, Zdk, Zcb, Zcc, Zcd, List.all_cons, List.all_nil, Bool.and_self, plan85_3, ha.ownD, i0, Zey Try.underlying5 Try.underlying3, wm, w1, s1, s2, Option.toArray_none, Option.toArray_some]
  refine (Zf8 (l := plan85_4) (by exact plan85_4_eq)).trans ?_
  simp only [Zaz, Za3, List.getElem?_toArray, List.getElem?_cons_succ, List.getElem?_cons_zero, ne_eq, reduceCtorEq, not_false_eq_true, implies_true, Bool.not_false, Option.map_some, List.set_cons_succ, List.set_cons_zero, List.getD_cons_succ, List.getD_cons_zero, Zau, List.any_cons, List.any_nil, ↓reduceIte, Za0, Zck, Za4, Zaf, Zaq, Zaw, Zap, Zan, Zb0, Zab, Zaa, Zah, Zea, Zcn, Zbm, Zcx, Zcw, List.forall_mem_cons, List.not_mem_nil, false_imp_iff, and_true, and_self, List.toList_toArray, Option.some.injEq, Prod.mk.injEq, Ze5, kd_l, Zc5, Zc4, Zch, Zbn, Zc6, Zba, Zdg, Zcs, Zbx, Zbw, Zhj, Op.operands, Ze2, List.foldl_nil, Bool.or_self, hcv, hres, kd_h, Zca, Zd4, Zd5, Zex, Ze3, Zdk, Zcb, Zcc, excD_e, List.all_cons, List.all_nil, Bool.and_self, plan85_4, hcs, hc, Zdb, Zcg, Zd1, Zc1]
  rfl

end Go.Abs
