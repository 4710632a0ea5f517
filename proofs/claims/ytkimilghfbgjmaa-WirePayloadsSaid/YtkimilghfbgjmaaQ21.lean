/-
  WIRE: num.Put. WIRE: num.Text. WIRE: num.List. WIRE: num.Take. WIRE: num.TakeText. No condition.
-/
import Derived.Test.YtkimilghfbgjmaaQ20

open List renaming any_cons → Yax, any_nil → Yay, append_nil → Yaf, cons_append → Yaj, drop_succ_cons → Yb7, drop_zero → Yb8, foldl_cons → Ybn, foldl_nil → Ybl, forall_mem_cons → Yb9, getD_cons_succ → Yak, getD_cons_zero → Yal, getElem?_cons_succ → Yam, getElem?_cons_zero → Yan, getElem?_toArray → Yao, length_cons → Yap, length_nil → Yaq, map_cons → Ybi, map_nil → Yba, nil_append → Yar, not_mem_nil → Ybb, replicate → Yae, set_cons_succ → Yas, set_cons_zero → Yat, take_zero → Ybd, zip_cons_cons → Ybo, zip_nil_right → Ybe
open Option renaming bind_eq_bind → Yah, bind_some → Yau, map_some → Ya2, pure_def → Yaz
open Bool renaming false_eq_true → Yav, or_false → Ybp, or_self → Yb3, or_true → Ybq
open Nat renaming le_refl → Yab, zero_add → Yaw
namespace Go.Abs
open Go Go.Proofs
set_option maxRecDepth 10000
set_option maxHeartbeats 4000000
def slD (l : List UInt8) : D := match l with
  | [] => .osl false true 0 []
  | b :: l => .osl true false 1 (byE (b :: l))
theorem slD_fit {n : Nat} {l : List UInt8} : Fit n (slD l) := by cases l <;> exact .osl _ _ _ _
theorem app31n {xs : List (List E)} {a : D} (ha : slOf a = some xs) (hok : Zlm 1 xs = true) (hl : xs.length ≤ 1073741824) : Zfz Try.prog 31 (.osl false true 0 []) a false = some (.osl true false 1 xs) := by
  unfold Zfz
  rw [el31]
  simp only [sz5, by5, Zf3, zo5]
  cases a with
  | e v =>
    cases v with
    | str => simp [slOf] at ha
    | _ => simp_all [notTup, cellsOf]
  | osl => simp_all [notTup, cellsOf]
  | _ => simp [slOf] at ha
theorem len31 {ex fu : Bool} {sz : Nat} {es : List (List E)} {h : List O} : len0 Try.prog 31 (.osl ex fu sz es) h = some es.length := Zk1 Try.underlying31 Zgg
theorem len31h {n : Nat} {h : List O} : len0 Try.prog 31 (.hdr n) h = some n := len0_hdr Try.underlying31
theorem Zu4 {es : List (List E)} {h : List O} : len0 Try.prog 31 (.e (.sl es)) h = some es.length := Zk1 Try.underlying31 Zkw
theorem ok_row1 {b : Int} : Zlm 1 [[E.int .u8 b]] = true := rfl
theorem Zwb {b : Int} : Zfz Try.prog 31 (.osl false true 0 []) (.osl false true 1 [[E.int .u8 b]]) false = some (.osl true false 1 [[E.int .u8 b]]) := app31n Zgg ok_row1 (by simp)
theorem app_row {ex fu : Bool} {xs : List UInt8} {b : UInt8} (hl : xs.length ≤ 1000000) (hne : xs ≠ []) : Zfz Try.prog 31 (.osl ex fu 1 (byE xs)) (.osl false true 1 [[E.int .u8 (b.toNat : Int)]]) false = some (.osl ex false 1 (byE (xs ++ [b]))) := by
  rw [Zxs (by cases xs <;> simp_all [byE]) Zgg ok_row1 (by simp [Zk6]; omega)]
  simp [byE, byR]
theorem row1 (b : UInt8) : [[E.int .u8 (b.toNat : Int)]] = byE [b] := rfl
theorem w90b (H : List O) (L p1 i0 : Nat) (q0 : List UInt8) (n0 : Nat) (hn0 : n0 ≤ 1099511627776) (h0 : H[i0]? = some (.cells [slD q0])) (h1 : H[p1]? = some (.cells [.int .i64 (n0 : Int)])) (hi : i0 ≠ p1)
    (hk0 : q0.length + (digs n0).length ≤ 1000) (hr : ∀ (q : List UInt8) (n : Nat) b, q.length ≤ 1000 → call Try.prog wpr wcv (.round L) [.int .u8 (UInt8.toNat b : Int)] ((H.set i0 (.cells [slD q])).set p1 (.cells [.int .i64 (n : Int)])) = some (.val (.bool true), (H.set i0 (.cells [slD (q ++ [b])])).set p1 (.cells [.int .i64 (n : Int)]))) :
    call Try.prog wpr wcv (.fn 90) [.func (.yield L) [] [], .ptr p1 0] H = some (.val Zaw, (H.set i0 (.cells [slD ((digs n0).foldl (fun q b => q ++ [b]) q0)])).set p1 (.cells [.int .i64 0])) := by
  have hlt := (List.getElem?_eq_some_iff.1 h1).1
  have := w90 (fun (q : List UInt8) (n : Nat) => q.length + (digs n).length ≤ 1000) (fun (q : List UInt8) (n : Nat) => (H.set i0 (.cells [slD q])).set p1 (.cells [.int .i64 (n : Int)])) L p1 (fun q b => q ++ [b]) n0 hn0
    (fun s n => by simp [Zbn, hlt]) (fun s n m => by rw [List.set_set]) (fun s n hn hk => by rw [digs.eq_def n, dif_pos hn] at hk; simp at hk ⊢; omega) (fun s n b _ hk => hr s n b (by omega)) (fun s n s' n' d => Ze6 (by simp)) q0 hk0
  rw [Zpr h0, Zpr h1] at this
  exact this
def putL (n : Nat) : List UInt8 := (digs n ++ [UInt8.ofNat (digs n).length]).reverse
theorem fold_app (xs q : List UInt8) : xs.foldl (fun q b => q ++ [b]) q = q ++ xs := by
  induction xs generalizing q with
  | nil => simp
  | cons x xs ih => rw [Ybn, ih]; simp
theorem Zw4 (n : Nat) (hn : n ≤ 1099511627776) : (digs n).length ≤ 6 := by
  have : ∀ k m : Nat, m < 256 ^ k → (digs m).length ≤ k := by
    intro k
    induction k with
    | zero => intro m hm; have : m = 0 := by simpa using hm
              subst this; rw [digs]; simp
    | succ k ih =>
      intro m hm
      rw [digs]
      split
      · have := ih (m / 256) (by rw [Nat.pow_succ] at hm; omega)
        simp; omega
      · simp
  exact this 6 n (by omega)
theorem flat_byE (l : List UInt8) : (byE l).flatten.map D.e = bD l := by
  induction l with
  | nil => rfl
  | cons b l ih => simp only [byE, bD, Ybi, List.flatten_cons, List.map_append] at ih ⊢; rw [ih]; rfl
theorem cv_opnC {tl : List D} {df : List (FuncId × List D)} {r : Rc} {h ex : List O} {t : Tmp} {l : List UInt8} {fu : Bool} (hl : l ≠ []) (hp : tl.getD t Zaw = .ptr h.length 0) :
    cv1 ⟨tl, df, r, h ++ .cells [.osl true fu 1 (byE l)] :: ex⟩ (.opnC t) = ⟨tl, df, r, h ++ .cells [.asl (h.length + (ex.length + 1)) 0 l.length] :: (ex ++ [.cells (bD l)])⟩ := by
  obtain ⟨b, l', rfl⟩ := List.exists_cons_of_ne_nil hl
  have e1 : Ztg (h.length + (ex.length + 1)) (.osl true fu 1 (byE (b :: l'))) = some (.asl (h.length + (ex.length + 1)) 0 (b :: l').length, .cells (bD (b :: l'))) := by
    rw [← flat_byE]
    simp [Ztg, byE]
  simp only [cv1, hp, Zar, Zbk, Yan, List.length_append, Yap, e1]
  simp [Zfg]
theorem rows1 : ∀ (xs : List E), rows 1 xs.length xs = xs.map fun x => [x]
  | [] => rfl
  | x :: xs => by simp only [Yap, rows, Ybi]; rw [show (x :: xs).drop 1 = xs by rfl, rows1 xs]; rfl
theorem plain_bD (l : List UInt8) : Zia (bD l) = some (l.map fun b => .int .u8 (b.toNat : Int)) := by
  induction l with
  | nil => rfl
  | cons b l ih => simp only [bD, Ybi, Zia] at ih ⊢; rw [ih]; rfl
theorem shutD_bD {h : List O} {i : Nat} {l : List UInt8} (hg : Zbn h i = some (bD l)) (hl : l ≠ []) : Zwl h i l.length = some (.e (.sl (byE l))) := by
  have hp : 0 < l.length := List.length_pos_iff.2 hl
  have hd : l.length / l.length = 1 := Nat.div_self hp
  unfold Zwl
  rw [hg]
  simp only [plain_bD, List.length_map, hd]
  rw [if_pos ⟨hp, by omega, by omega⟩]
  have := rows1 (l.map fun b => E.int .u8 (b.toNat : Int))
  rw [List.length_map] at this
  rw [this, List.map_map]; rfl
theorem cv_shutC {tl : List D} {df : List (FuncId × List D)} {r : Rc} {h : List O} {c1 : O} {t : Tmp} {l : List UInt8} {n : Nat} (hl : l ≠ []) (hn : n = l.length) (hp : tl.getD t Zaw = .ptr h.length 0) :
    cv1 ⟨tl, df, r, h ++ [.cells [.asl (h.length + 2) 0 n], c1, .cells (bD l)]⟩ (.shutC t) = ⟨tl, df, r, h ++ [.cells [.e (.sl (byE l))], c1, .dead]⟩ := by
  subst hn
  have hg : Zbn (h ++ [.cells [.asl (h.length + 2) 0 l.length], c1, .cells (bD l)]) (h.length + 2) = some (bD l) := by rw [Zbe]; rfl
  have hne : ¬ (h.length + 2 = h.length) := by omega
  simp only [cv1, hp, Zar, Zbk, Yan, if_neg hne, shutD_bD hg hl]
  simp [Zfg]
theorem w47_bad (n : Int) (hn : n < 0 ∨ 1099511627776 < n) (h : List O) : wc 47 [.int .i64 n] h = some (.val (.tup [.osl false true 0 [], .int .i64 2]), h) := by
  have hcv0 : wcv 47 0 = [] := rfl
  have hcv1 : wcv 47 1 = [] := rfl
  have hcv2 : wcv 47 2 = [] := rfl
  have hcv3 : wcv 47 3 = [] := rfl
  have hcv4 : wcv 47 4 = [] := rfl
  have hcv5 : wcv 47 5 = [] := rfl
  have hcv6 : wcv 47 6 = [] := rfl
  have hcv7 : wcv 47 7 = [] := rfl
  have hcv8 : wcv 47 8 = [.opnC 4] := rfl
  have hcv9 : wcv 47 9 = [.shutC 4] := rfl
  have hres : Try.f47.results.toList = [ResultVar.tmp 2, ResultVar.tmp 3] := rfl
  rw [wc, Zbm rfl Try.func47 rfl]
  by_cases h1 : n < 0
  · simp only [Zbj, Yap, Yaq, Nat.reduceAdd, Nat.reduceSub, Yae, Yaj, Yar, Zai, Zb2, Za7, Zak, Za3, Zc0, Zae, Zan, Zas, Za9, Ze8, St.put, Yao, Yam, Yan, Yau, Nat.reduceLT, ne_eq, reduceCtorEq, not_false_eq_true, implies_true, Bool.not_false, Ya2, Yas, Yat, Yak, Yal, Zau, Zdv, ↓reduceIte, Za4, Za0, Za6, Zat, Za2, Zap, Zbh, Zab, Zag, Zam, Zax, Zcw, Zc6, Zbs, Zb3, Zad, Zac, Zal, Zd2, Zcq, Zbr, Zcy, Zcx, Yb9, Ybb, false_imp_iff, and_self, Option.some.injEq, Zdn, Ybl, Yaw, Zdb, hcv0, hcv1, hcv2, Try.ntmps47, hres, h1, decide_true]
  · have h2 : 1099511627776 < n := by omega
    simp only [Zbj, Yap, Yaq, Nat.reduceAdd, Nat.reduceSub, Yae, Yaj, Yar, Zai, Zb2, Za7, Zak, Za3, Zc0, Zae, Zan, Zas, Za9, Zch, Yao, Yam, Yan, Yau, Nat.reduceLT, ne_eq, reduceCtorEq, not_false_eq_true, implies_true, Yav, Ya2, Yas, Yat, Yak, Yal, Zau, Zdv, ↓reduceIte, Za4, Za0, Za6, Zat, Za2, Zaf, Zap, Zab, Zag, Zam, Zcw, Zc6, Zeo, Zbs, Zdr, Zb3, Zad, Zac, Zal, Zd2, Zcq, Zbr, Zcy, Zcx, Yb9, Ybb, false_imp_iff, and_self, Option.some.injEq, Zdn, Ybl, Yaw, Zdb, hcv0, hcv1, hcv2, Try.ntmps47, hres, h1, h2, decide_true, decide_false]
theorem w47 (n : Nat) (hn : n ≤ 1099511627776) (h : List O) : wc 47 [.int .i64 (n : Int)] h = some (.val (.tup [.e (.sl (byE (putL n))), .int .i64 0]), h) := by
  have h80 := w80 (n : Int)
  have e1 : decide ((n : Int) < 0) = false := by simp
  have e2 : decide (1099511627776 < (n : Int)) = false := by simp; omega
  have hcv0 : wcv 47 0 = [] := rfl
  have hcv1 : wcv 47 1 = [] := rfl
  have hcv2 : wcv 47 2 = [] := rfl
  have hcv3 : wcv 47 3 = [] := rfl
  have hcv4 : wcv 47 4 = [] := rfl
  have hcv5 : wcv 47 5 = [] := rfl
  have hcv6 : wcv 47 6 = [] := rfl
  have hcv7 : wcv 47 7 = [] := rfl
  have hcv8 : wcv 47 8 = [.opnC 4] := rfl
  have hcv9 : wcv 47 9 = [.shutC 4] := rfl
  have hres : Try.f47.results.toList = [ResultVar.tmp 2, ResultVar.tmp 3] := rfl
  rw [wc, Zbm rfl Try.func47 rfl]
  simp only [Zbj, Yap, Yaq, Nat.reduceAdd, Nat.reduceSub, Yae, Yaj, Yar, Zai, Zbw, Zc5, Za7, Zao, Za3, Zae, Zan, Zbf, Zbg, Zas, Za9, Zbq, Zch, Yao, Yam, Yan, Yau, Nat.reduceLT, ne_eq, reduceCtorEq, not_false_eq_true, implies_true, Yav, Ya2, Yas, Yat, Yak, Yal, Zau, ↓reduceIte, Za4, Za0, Za6, Zat, Zd4, Za2, Zaf, Zap, Zab, Zag, Zaq, Zah, Zam, Zcw, Zc6, Zeo, Zbs, Zdr, Option.some.injEq, Zdn, Ybl, hlen, Zin, Zdl, Zct, Yaw, Zdb, hcv0, hcv1, hcv3, hcv4, Try.ntmps47, e1, e2, zo31, h80]
  rw [Zl7 rfl rfl rfl]
  simp only [Yap, Yaq, Nat.reduceAdd, Yaj, Yar, hlen, Ybi, Yba, Yaw, List.append_assoc, Zif, shrT_e, Zl1, Zjl, Znm Rd.osl]
  have hdl := Zw4 n hn
  refine Zn7 (P := Try.prog) (pr := wpr) (cv := wcv) (w90b _ _ _ h.length [] n hn (by simp [slD]) (by simp) (by omega) (by simp; omega) ?_) ?_
  · intro q m b hq
    rw [Zet, Zdh]
    simp only [Yas, Yat, Zet, Zdh]
    refine (Zit (hgetn.trans rfl) rfl).trans ?_
    simp only [Zae, Zan, Za9, ne_eq, reduceCtorEq, not_false_eq_true, implies_true, Ya2, Yas, Yat, Yak, Yal, Zau, Za0, Za2, Zdn, Ybl, Zdb, Ybn, hcv5, Ybo, Ybe]
    rw [Zjr (hgetn.trans rfl)]
    cases q with
    | nil =>
      simp only [Yap, Yaq, Yar, Zc5, Zcd, Zae, Zan, Zbd, Za9, Zcf, Yao, Yam, Yan, Yau, ne_eq, reduceCtorEq, not_false_eq_true, implies_true, Yav, Ya2, Yas, Yat, Yak, Yal, Zau, Zdv, Yax, Yay, Zd5, Ybp, ↓reduceIte, Zca, Zbb, Za2, Zaf, Zab, Zec, Zdg, Ze4, and_self, Zdn, Ybl, Yaf, Zar, Zbk, Zet, Zdh, Za8, Zb1, Zdl, Zct, Zbt, Zco, Ybd, Yb7, Yb8, Ybi, Yba, Zaj, Yb3, Ybq, Yaw, Yab, Try.underlying31, sz31, ag31, Zdb, hcv6, slD, Zug, Zwb, Ybo, Ybe, back, Zci, taken, Zbi, Zdj, beq_self_eq_true, Nat.reduceBEq, Zdd, Zcn, Zgf, Zfb, Zfj, Zd6, Zcg, Zkk, Zf6]
      rw [Zk8 (hgetn.trans rfl)]
      simp only [Yas, Yat, Zdh, row1]
    | cons x q =>
      have hap := app_row (ex := true) (fu := false) (xs := x :: q) (b := b) (by simp at hq ⊢; omega) (by simp)
      simp only [Yap, Yaq, Yaj, Yar, Zc5, Zcd, Zae, Zan, Zbd, Za9, Zcf, Yao, Yam, Yan, Yau, ne_eq, reduceCtorEq, not_false_eq_true, implies_true, Yav, Ya2, Yas, Yat, Yak, Yal, Zau, Yax, Yay, Ybp, ↓reduceIte, Zca, Zbb, Zaf, Zab, Zec, Zdg, Ze4, and_self, Zdn, Ybl, Yaf, Zar, Zbk, Zet, Zdh, Za8, Zb1, Zdl, Zct, Zbt, Zco, Ybd, Yb7, Yb8, Ybi, Yba, Zaj, Yb3, Ybq, Yaw, Yab, Try.underlying31, sz31, ag31, Zdb, hcv6, slD, Zug, hap, Ybo, Ybe, back, Zci, taken, Zbi, Zdj, beq_self_eq_true, Nat.reduceBEq, Zdd, Zcn, Zgf, Zfb, Zfj, Zd6, Zf5, Zcg, Zgx, Zkk, Zf6]
      rw [Zk8 (hgetn.trans rfl)]
      simp only [Yas, Yat, Zdh]
  · rw [Zet, Zdh, fold_app, Yar]
    simp only [Yas, Yat]
    rw [Zkl (n := h.length + 2) (by simp) (hgetn.trans rfl) (by simp)]
    simp only [Zai, Za3, Zcd, Zan, Yau, ne_eq, reduceCtorEq, not_false_eq_true, implies_true, Yas, Yat, Yak, Yal, Zab, Zdn, Ybl, Zdh, Ybi, Yba, Zaj, Zdb, hcv7]
    rw [Zn9 (n := h.length + 2) (h := h) (l := [_, _]) rfl (.tup [] (by simp)) ?_]
    rotate_left
    · exact ⟨.inr (.cells _ (by simp [slD_fit])), .inr (.cells _ (by simp [Zbr])), trivial⟩
    simp only [Yap, Yaq, Nat.reduceAdd, Yar, Yan, ↓reduceIte, Yaf, Zar, Zbk, Zet, Za8, Zb1, Zbt, List.take_succ_cons, Ybd, Yb7, Yb8, Yaw, Yab, sz31, ag31, Zj1, kep_e, Zmb, Zkd, Zqb Rd.osl]
    have hlen : (digs n ++ [UInt8.ofNat (digs n).length]).length ≤ 7 := by simp; omega
    have hne : digs n ++ [UInt8.ofNat (digs n).length] ≠ [] := by simp
    have h81 := w81 (h ++ [.cells [.asl (h.length + 2) 0 (digs n ++ [UInt8.ofNat (digs n).length]).length], .cells [.int .i64 0]]) [] (digs n ++ [UInt8.ofNat (digs n).length]) (by simp) (by omega)
    have hap : ∀ x q, digs n = x :: q → Zfz Try.prog 31 (.osl true false 1 (byE (digs n))) (.osl false true 1 [[E.int .u8 ((UInt8.ofNat (digs n).length).toNat : Int)]]) false = some (.osl true false 1 (byE (digs n ++ [UInt8.ofNat (digs n).length]))) := fun x q e => app_row (by omega) (by rw [e]; simp)
    have hap0 : digs n = [] → Zfz Try.prog 31 (.osl false true 0 []) (.osl false true 1 [[E.int .u8 ((UInt8.ofNat (digs n).length).toNat : Int)]]) false = some (.osl true false 1 (byE (digs n ++ [UInt8.ofNat (digs n).length]))) := fun e => by rw [Zwb, e]; rfl
    have hput : putL n = (digs n ++ [UInt8.ofNat (digs n).length]).reverse := rfl
    have hreg : ∀ fu : Bool, True := fun _ => trivial
    generalize hds : digs n ++ [UInt8.ofNat (digs n).length] = ds at *
    simp only [List.append_assoc, List.length_append, Yap, Yaq, Yaj, Yar, Yaw, Nat.reduceAdd] at h81
    have own0_asl : ∀ i o n, own0 (.asl i o n) = false := fun _ _ _ => rfl
    cases hd : digs n with
    | nil =>
      have hap0 := hap0 hd
      rw [hd] at hap0
      simp only [Yaq] at hap0
      simp only [Yap, Yaq, Yar, Zai, Za3, Zae, Zan, Zbd, Za9, Zcf, Yao, Yam, Yan, Yau, ne_eq, reduceCtorEq, not_false_eq_true, implies_true, Yav, Ya2, Yas, Yat, Yak, Yal, Zau, Zdv, Yax, Yay, Zd5, Ybp, ↓reduceIte, Zcs, Zca, Zbb, Za2, Zaf, Zab, Zec, Zdg, Zd0, Ze4, and_self, Zdn, Ybl, Yaf, Zar, Zbk, Zet, Za8, Zb1, Zdl, Zct, Zbt, Zco, Ybd, Yb7, Yb8, Ybi, Yba, Yah, Zaj, Yb3, Ybq, Yaw, Yaz, Yab, Try.underlying31, sz31, ag31, Zdb, Ybn, hcv8, slD, len31, Zk6, Zez Try.underlying3 Try.underlying5, Zr3, Ybo, Ybe, Zug, hap0, back, taken, Zbi, Zdj, beq_self_eq_true, Nat.reduceBEq, Zdd, Zcn, Zgf, Zfb, Zfj, Zd6, Zcg, Zkk, Zf6]
      rw [cv_opnC hne rfl]
      simp only [Yap, Yaq, Nat.reduceAdd, Yaj, Yar, Zai, Za3, Zae, Zan, Zbf, Zbg, Za9, Zbq, Yan, Yau, ne_eq, reduceCtorEq, not_false_eq_true, implies_true, Yav, Ya2, Yas, Yat, Yak, Yal, Zkq, ↓reduceIte, Za2, Zab, Zaq, Zah, Zdn, Ybl, Zar, Zbk, Za8, Zbt, Zaj, Yaw, Yab, sz31, ag31, Zdb, Ybn, hcv9, own0_asl, h81]
      rw [cv_shutC (l := ds.reverse) (by simpa using hne) (by simp) rfl]
      simp only [Yap, Yaq, Zb2, Za3, Zae, Zan, Za9, Yan, Yau, ne_eq, reduceCtorEq, not_false_eq_true, implies_true, Yav, Ya2, Yas, Yat, Yak, Yal, Zau, Zb7, ↓reduceIte, Za0, Za2, Zap, Zab, Zam, Zb3, Zad, Zac, Zal, Zd2, Zbr, Zcx, Yb9, Ybb, false_imp_iff, and_self, Zar, Zbk, Za8, Zbt, Zb4, Yaw, Yab, sz31, ag31, hres, hput]
    | cons x q =>
      have hap := hap x q hd
      rw [hd] at hap
      simp only [Yap] at hap
      simp only [Yap, Yaq, Yar, Zai, Za3, Zae, Zan, Zbd, Za9, Zcf, Yao, Yam, Yan, Yau, ne_eq, reduceCtorEq, not_false_eq_true, implies_true, Yav, Ya2, Yas, Yat, Yak, Yal, Zau, Yax, Yay, Zm2, Ybp, ↓reduceIte, Zcs, Zca, Zbb, Zaf, Zab, Zec, Zdg, Zd0, Ze4, and_self, Zdn, Ybl, Yaf, Zar, Zbk, Zet, Za8, Zb1, Zdl, Zct, Zbt, Zco, Ybd, Yb7, Yb8, Ybi, Yba, Yah, Zaj, Yb3, Ybq, Yaw, Yaz, Yab, Try.underlying31, sz31, ag31, Zdb, Ybn, hcv8, slD, len31h, Zk6, Zez Try.underlying3 Try.underlying5, Zr3, Ybo, Ybe, Zug, hap, back, taken, Zbi, Zdj, beq_self_eq_true, Nat.reduceBEq, Zdd, Zcn, Zgf, Zfb, Zfj, Zd6, Zf5, Zcg, Zgx, Zkk, Zf6]
      rw [cv_opnC hne rfl]
      simp only [Yap, Yaq, Nat.reduceAdd, Yaj, Yar, Zai, Za3, Zae, Zan, Zbf, Zbg, Za9, Zbq, Yan, Yau, ne_eq, reduceCtorEq, not_false_eq_true, implies_true, Yav, Ya2, Yas, Yat, Yak, Yal, Zkq, ↓reduceIte, Za2, Zab, Zaq, Zah, Zdn, Ybl, Zar, Zbk, Za8, Zbt, Zaj, Yaw, Yab, sz31, ag31, Zdb, Ybn, hcv9, own0_asl, h81]
      rw [cv_shutC (l := ds.reverse) (by simpa using hne) (by simp) rfl]
      simp only [Yap, Yaq, Zb2, Za3, Zae, Zan, Za9, Yan, Yau, ne_eq, reduceCtorEq, not_false_eq_true, implies_true, Yav, Ya2, Yas, Yat, Yak, Yal, Zau, Zb7, ↓reduceIte, Za0, Za2, Zap, Zab, Zam, Zb3, Zad, Zac, Zal, Zd2, Zbr, Zcx, Yb9, Ybb, false_imp_iff, and_self, Zar, Zbk, Za8, Zbt, Zb4, Yaw, Yab, sz31, ag31, hres, hput]
end Go.Abs
namespace Go.Abs
open Go Go.Proofs
set_option maxRecDepth 10000
set_option maxHeartbeats 4000000
theorem w94 (n : Nat) (hn : n ≤ 1073741824) (h : List O) : wc 94 [.osl false true 0 [], .int .i64 (n : Int)] h = some (.val (.osl true false 1 []), h) := by
  refine call_pr ?_
  simp [wpr]; omega
theorem bs105_2' {a b : List (List E)} {e f : Bool} : Zef Try.prog 105 2 [(0, .osl e f 1 a), (1, .e (.sl b))] = some (.osl true true 1 [[.sl a], [.sl b]]) := by
  simp [Zef, Zxl, sz31, Zf3, zo31, Zoj, Zkt, cellsOf, notTup, Zfg, Zpd, Zoy, toEs, toE]
theorem len105 {ex fu : Bool} {es : List (List E)} {h : List O} : len0 Try.prog 105 (.osl ex fu 1 es) h = some es.length := Zk1 Try.underlying105 Zgg
theorem ix105_0 {a' : List (List E)} {b : List E} {ex fu : Bool} : Zeh Try.prog 105 (.osl ex fu 1 [[.sl a'], b]) (.e (.int .i64 0)) = some (.rptr [.sl a'] 0) := Zxc Try.underlying105 sz31 Zgg (by omega) rfl rfl (by omega)
theorem ix105_1 {b : List (List E)} {a : List E} {ex fu : Bool} : Zeh Try.prog 105 (.osl ex fu 1 [a, [.sl b]]) (.e (.int .i64 1)) = some (.rptr [.sl b] 0) := Zxc Try.underlying105 sz31 Zgg (by omega) rfl rfl (by omega)
theorem app31m {es xs : List UInt8} {a : D} (ha : slOf a = some (byE xs)) (hl : es.length + xs.length ≤ 1073741824) : Zfz Try.prog 31 (.osl true false 1 (byE es)) a false = some (.osl true false 1 (byE (es ++ xs))) := by
  rw [app31 ha (Zq6 _) (by simpa [Zk6] using hl), Zr1]; rfl
theorem w91 (xs ys : List UInt8) (h : List O) (hx : xs.length ≤ 1000) (hy : ys.length ≤ 1000) : wc 91 [.osl true true 1 [[.sl (byE xs)], [.sl (byE ys)]]] h = some (.val (.osl true false 1 (byE (xs ++ ys))), h) := by
  have w1 : IntKind.i64.wrap (0 + (xs.length : Int)) = (xs.length : Int) := by rw [Zft (by omega) (by omega)]; omega
  have w2 : IntKind.i64.wrap ((xs.length : Int) + (ys.length : Int)) = ((xs.length + ys.length : Nat) : Int) := by rw [Zft (by omega) (by omega)]; omega
  have c1 : decide ((xs.length : Int) < 0) = false := by simp
  have c2 : decide (((xs.length + ys.length : Nat) : Int) < 0) = false := by simp; omega
  have c3 : IntKind.i64.wrap (0 + 1) = 1 := by decide
  have c4 : IntKind.i64.wrap (1 + 1) = 2 := by decide
  have h94 := w94 (xs.length + ys.length) (by omega)
  have a1 : Zfz Try.prog 31 (.osl true false 1 []) (.e (.sl (byE xs))) false = some (.osl true false 1 (byE xs)) := by have := app31m (es := []) (xs := xs) (a := .e (.sl (byE xs))) Zkw (by simp; omega); simpa [byE] using this
  have a2 : Zfz Try.prog 31 (.osl true false 1 (byE xs)) (.e (.sl (byE ys))) false = some (.osl true false 1 (byE (xs ++ ys))) := app31m Zkw (by omega)
  have n2 : ((2 : Nat) : Int) = 2 := rfl
  have hcv : ∀ i, wcv 91 i = [] := fun _ => rfl
  have hres : Try.f91.results.toList = [ResultVar.tmp 2] := rfl
  rw [wc, Zbm rfl Try.func91 rfl]
  simp only [Zbj, Yap, Yaq, Nat.reduceAdd, Nat.reduceSub, Yae, Yaj, Yar, Zai, Zbw, Zb2, Zfv, Zc5, Za7, Zak, Zao, Za3, Zeq, Zcd, Zer, Zdx, Ze2, Zae, Zan, Zbd, Zbf, Zbg, Za9, Zbq, Yao, Yam, Yan, Yau, ne_eq, reduceCtorEq, not_false_eq_true, implies_true, Yav, Ya2, Yas, Yat, Yak, Yal, Zau, Zdv, Yax, Yay, Ybp, ↓reduceIte, Za0, Za6, Zbo, Za2, Zaf, Zap, Zbh, Zab, Zag, Zaq, Zah, Zam, Zcw, Zdc, Zc6, Int.reduceLT, Zcz, Zbs, Zd0, Ze4, Zb3, Zad, Zac, Zal, Zav, Zcq, Zcy, Ze3, Zj0, Yah, Zaj, Yb3, Ybq, Yaw, Yaz, Yab, Try.underlying31, sz31, ag31, Za1 (hcv _), Try.ntmps91, hres, back, Zci, taken, Zbi, Zdj, beq_self_eq_true, Nat.reduceBEq, Zdd, Zcn, Zgf, Zfb, Zfj, Zd6, Zcg, Zkk, Zf6, len105, Zp5, decide_true, decide_false, ix105_0, ix105_1, Zu4, Zk6, w1, w2, c1, c2, c3, c4, h94, a1, a2, n2]
def sL (s : ByteArray) : List UInt8 := s.data.toList
theorem sL_len {s : ByteArray} : (sL s).length = s.size := rfl
theorem strE_sL (s : ByteArray) : strE s = byE (sL s) := by
  rw [strE, ByteArray.toList_eq]; rfl
theorem conv_bytes {s : ByteArray} (h : s.size ≤ 4294967296) : Zw6 Try.prog 9 31 (.e (.str s)) = some (.osl true false 1 (byE (sL s))) := by
  simp [Zw6, Try.underlying9, Try.underlying31, Try.underlying5, h, strE_sL]
def Zky (s : ByteArray) : List UInt8 := UInt8.ofNat s.size :: sL s
theorem w82 (s : ByteArray) (hs : s.size < 256) (h : List O) : wc 82 [.str s] h = some (.val (.tup [.osl true false 1 (byE (Zky s)), .int .i64 0]), h) := by
  have e1 : decide (256 ≤ (s.size : Int)) = false := by simp; omega
  have h91 := w91 [UInt8.ofNat s.size] (sL s) h (by simp) (by rw [sL_len]; omega)
  have hcv : ∀ i, wcv 82 i = [] := fun _ => rfl
  have hres : Try.f82.results.toList = [ResultVar.tmp 2, ResultVar.tmp 3] := rfl
  rw [wc, Zbm rfl Try.func82 rfl]
  simp only [Zbj, Yap, Yaq, Nat.reduceAdd, Nat.reduceSub, Yae, Yaj, Yar, Zai, Zbw, Zb2, Za7, Zao, Za3, Zae, Zan, Zbd, Zbf, Zbg, Za9, Zbq, Yao, Yan, Yau, ne_eq, reduceCtorEq, not_false_eq_true, implies_true, Yav, Ya2, Yas, Yat, Yak, Yal, Zau, Yax, Yay, ↓reduceIte, Za0, Za6, Zcs, Zca, Za2, Zaf, Zap, Zab, Zag, Zaq, Zah, Zec, Zdg, Zam, Zcw, Zf2, Zeb, Zd0, Zb3, Zad, Zac, Zal, Zd2, Zcq, Zbr, Zcy, Zcx, Yb9, Ybb, false_imp_iff, and_true, and_self, Option.some.injEq, Prod.mk.injEq, Ybi, Yba, Yah, Yb3, Yaw, Zhj, Yaz, Try.underlying9, Za1 (hcv _), Try.ntmps82, hres, e1, Zez Try.underlying3 Try.underlying5, Zr3, Ybo, Ybe, Zug, row1, conv_bytes (show s.size ≤ 4294967296 by omega), Zci, taken, Zbi, Zdj, Nat.reduceBEq, Zdd, Zcn, Zgf, Zfb, Zfj, Zd6, Zcg, Zkk, Zi8, Zf6, bs105_2', h91]
  rfl
end Go.Abs
namespace Go.Abs
open Go Go.Proofs
set_option maxRecDepth 10000
set_option maxHeartbeats 4000000
theorem app_row0' {b : UInt8} : Zfz Try.prog 31 (.osl false true 0 []) (.osl false true 1 (byE [b])) false = some (.osl true false 1 (byE [b])) := Zwb
def okN (x : Int) : Bool := decide (0 ≤ x) && decide (x ≤ 1099511627776)
def Zds (xs : List Int) : List UInt8 := xs.flatMap fun x => putL x.toNat
def Znv (xs : List Int) : List UInt8 := UInt8.ofNat xs.length :: Zds xs
theorem Zuy (n : Nat) (hn : n ≤ 1099511627776) : (putL n).length ≤ 7 := by
  have := Zw4 n hn
  simp [putL]; omega
theorem Zu0 {xs : List Int} {i : Nat} {x : Int} (h : xs[i]? = some x) : Zds (xs.take (i + 1)) = Zds (xs.take i) ++ putL x.toNat := by
  have hi := (List.getElem?_eq_some_iff.1 h).1
  rw [List.take_succ_eq_append_getElem hi, (List.getElem?_eq_some_iff.1 h).2]
  simp [Zds]
theorem Zmh {xs : List Int} (h : ∀ x ∈ xs, okN x = true) : (Zds xs).length ≤ 7 * xs.length := by
  induction xs with
  | nil => simp [Zds]
  | cons x xs ih =>
    have h1 := ih fun y hy => h y (by simp [hy])
    have h2 := h x (by simp)
    simp only [okN, Bool.and_eq_true, decide_eq_true_eq] at h2
    have h3 := Zuy x.toNat (by omega)
    simp only [Zds, List.flatMap_cons, List.length_append, Yap] at h1 ⊢
    omega
theorem w83 (a : D) (xs : List Int) (ha : Rd a (isE xs)) (hx : xs.length < 256) (h : List O) : wc 83 [a] h = some (.val (if xs.all okN then .tup [.osl true false 1 (byE (Znv xs)), .int .i64 0] else .tup [.osl false true 0 [], .int .i64 2]), h) := by
  have la := Zws ha
  have e1 : decide (256 ≤ (xs.length : Int)) = false := by simp; omega
  have hcv : ∀ i, wcv 83 i = [] := fun _ => rfl
  have hres : Try.f83.results.toList = [ResultVar.tmp 2, ResultVar.tmp 3] := rfl
  rw [wc, Zbm rfl Try.func83 rfl]
  simp only [Zbj, Yap, Yaq, Nat.reduceSub, Yae, Yaj, Yar, Zai, Zbw, Zc5, Zi4, Zic, Za7, Zao, Za3, Zae, Zan, Zbd, Za9, Yao, Yam, Yan, Yau, ne_eq, reduceCtorEq, not_false_eq_true, implies_true, Yav, Ya2, Yas, Yat, Yak, Yal, Zau, Zdv, Yax, Yay, Ybp, ↓reduceIte, Za0, Za6, Zcs, Zca, Za2, Zaf, Zap, Zbh, Zab, Zag, Zec, Zdg, Zam, Zcw, Zf2, Zeb, Zd0, Ze4, Ybi, Yba, Yah, Yb3, Ybq, Yaw, Yaz, Try.underlying31, Za1 (hcv _), Try.ntmps83, ha.ownD, la, e1, Zez Try.underlying3 Try.underlying5, Zr3, Ybo, Ybe, Zug, app_row0', row1, Zci, taken, Zbi, Zdj, beq_self_eq_true, Nat.reduceBEq, Zdd, Zcn, Zgf, Zfb, Zfj, Zd6, Zcg, Zkk, Zf6]
  refine Zff (fun (n : Nat) (s : St) => ∃ i : Nat, (i + n = xs.length ∧ ∀ x ∈ xs.take i, okN x = true) ∧ ∃ zs_, s = ⟨mkT [some (a), none, some (.osl true false 1 (byE (UInt8.ofNat xs.length :: Zds (xs.take i)))), none, none, none, none, none, none, none, none, none, none, none, none, none, some (a), some (.int .i64 xs.length), some (.int .i64 i), none, none, none, none, none, none, none, none, none, none, none, none, none, none, none, none] zs_ 0, [], .no, h⟩) ?_ (xs.length) ⟨0, ⟨by omega, by simp⟩, Zd8 rfl rfl rfl rfl⟩
  rintro n _ ⟨i, hf_o, zs_o, rfl⟩ IH_o
  obtain ⟨hn, ht⟩ := hf_o
  by_cases hi : i < xs.length
  rotate_left
  · have e2 : decide ((i : Int) < xs.length) = false := by simp; omega
    have hz : xs.take i = xs := List.take_of_length_le (by omega)
    rw [hz] at ht
    have hall : xs.all okN = true := by simpa using ht
    simp only [Nat.reduceAdd, Zai, Zb2, Zfv, Za7, Zao, Za3, Zc0, Zeq, Zer, Ze2, Zeg, Zae, Zan, Za9, ne_eq, reduceCtorEq, not_false_eq_true, implies_true, Ya2, Yas, Yat, Yak, Yal, Zau, Yax, Yay, Ybp, ↓reduceIte, Za0, Za6, Za2, Zap, Zab, Zam, Zc6, Zbs, Zb3, Zad, Zac, Zal, Zd2, Zcq, Zbr, Zcy, Zcx, Yb9, Ybb, false_imp_iff, and_true, and_self, Option.some.injEq, Prod.mk.injEq, mkT, Yb3, Yaw, Za1 (hcv _), hres, e2, hz, hall, Zci, taken, Zbi, Zdj, beq_self_eq_true, Zdd, Zcn, Zd6, Zcg]
    rfl
  have e2 : decide ((i : Int) < xs.length) = true := by simp; omega
  have hxi : xs[i]? = some xs[i] := List.getElem?_eq_getElem hi
  generalize xs[i] = x at hxi
  have ia := rd_ix ha hxi
  cases hok : okN x
  · have hall : xs.all okN = false := by
      rw [← Bool.not_eq_true, List.all_eq_true]
      intro hh
      have := hh x (List.mem_of_getElem? hxi)
      rw [hok] at this; cases this
    have h47 := w47_bad x (by simp [okN] at hok; omega)
    have e3 : ((2 : Int) != 0) = true := by decide
    simp only [Yap, Yaq, Nat.reduceAdd, Zai, Zbw, Zb2, Zhn, Zc5, Zic, Za7, Zak, Za3, Zgy, Zm5, Zkm, Zeg, Zae, Zan, Zbf, Zbg, Za9, Zbq, Yam, Yan, Yau, ne_eq, reduceCtorEq, not_false_eq_true, implies_true, Yav, Ya2, Yas, Yat, Yak, Yal, Zau, Zdv, Yax, Yay, Ybp, ↓reduceIte, Za0, Za6, Zbo, Zc8, Za2, Zaf, Zap, Zab, Zag, Zaq, Zah, Zam, Zcw, Zem, Zc6, Zdm, Zbs, Zb3, Zad, Zac, Zal, Zd2, Zcq, Zbr, Zcy, Zcx, Yb9, Ybb, false_imp_iff, and_self, mkT, Ze3, Zj0, Zaj, Yb3, Ybq, Yaw, Yab, sz3, ag3, Za1 (hcv _), hres, e2, ha.ownD, ia, h47, e3, hall, Zho, Zil, Zmk, Ziq, Zir, Zip, Zqh, Zhp, Zks, Zrs, beq_self_eq_true, Zd7, Zg4, Zhm, back, Zci, taken, Zbi, Zdj, Nat.reduceBEq]
  · obtain ⟨m, rfl⟩ : ∃ m : Nat, x = m := ⟨x.toNat, by simp [okN] at hok; omega⟩
    have hm : m ≤ 1099511627776 := by simp [okN] at hok; omega
    have h47 := w47 m hm
    have e3 : ((0 : Int) != 0) = false := by decide
    have hnl := Zmh ht
    have hpl := Zuy m hm
    have happ : Zfz Try.prog 31 (.osl true false 1 (byE (UInt8.ofNat xs.length :: Zds (xs.take i)))) (.e (.sl (byE (putL m)))) false = some (.osl true false 1 (byE (UInt8.ofNat xs.length :: Zds (xs.take (i + 1))))) := by
      rw [app31m Zkw (by simp at hnl ⊢; omega), Zu0 hxi]; simp
    simp only [Yap, Yaq, Nat.reduceAdd, Zai, Zbw, Zc5, Za7, Zak, Zao, Za3, Zcd, Zdx, Zae, Zan, Zbd, Zbf, Zbg, Za9, Zbq, Yao, Yam, Yan, Yau, ne_eq, reduceCtorEq, not_false_eq_true, implies_true, Yav, Ya2, Yas, Yat, Yak, Yal, Zau, Yax, Yay, Ybp, ↓reduceIte, Za0, Za6, Zbo, Zc8, Za2, Zaf, Zab, Zag, Zaq, Zah, Zam, Zdc, Zem, Zc6, Zcz, Zdm, Zbs, Ze4, mkT, Ze3, Zj0, Zaj, Yb3, Ybq, Yaw, Yab, Try.underlying31, sz3, ag3, Za1 (hcv _), e2, ha.ownD, ia, h47, e3, happ, Zp7 hi (show xs.length ≤ 1099511627776 by omega), beq_self_eq_true, Zd7, Zg4, back, Zci, taken, Zbi, Zdj, Nat.reduceBEq, Zdd, Zcn, Zd6, Zcg]
    refine IH_o (xs.length - (i + 1)) _ (by omega) ⟨i + 1, ⟨by omega, fun y hy => ?_⟩, Zd8 rfl rfl rfl rfl⟩
    rw [List.take_succ_eq_append_getElem hi] at hy
    simp only [List.mem_append, List.mem_singleton] at hy
    rcases hy with hy | hy
    · exact ht y hy
    · have := (List.getElem?_eq_some_iff.1 hxi).2
      rw [hy, this]; exact hok
end Go.Abs
namespace Go.Abs
open Go Go.Proofs
set_option maxRecDepth 10000
set_option maxHeartbeats 4000000
def valB (xs : List UInt8) : Nat := xs.foldl (fun n b => n * 256 + b.toNat) 0
inductive TakeR where
  | short
  | form
  | ok (n : Nat) (rest : List UInt8)
def Zmf : List UInt8 → TakeR
  | [] => .short
  | m :: xs =>
    if 6 < m.toNat then .form else
    if xs.length < m.toNat then .short else
    if m.toNat = 0 then .ok 0 xs else
    if 0 < (xs.getD 0 0).toNat ∧ valB (xs.take m.toNat) ≤ 1099511627776 then .ok (valB (xs.take m.toNat)) (xs.drop m.toNat) else .form
def TakeR.d : TakeR → D
  | .short => .tup [.int .i64 0, .osl false true 0 [], .int .i64 11]
  | .form => .tup [.int .i64 0, .osl false true 0 [], .int .i64 12]
  | .ok n rest => .tup [.int .i64 (n : Int), .osl true false 1 (byE rest), .int .i64 0]
theorem valB_lt : ∀ (k : Nat) (xs : List UInt8), xs.length ≤ k → valB xs < 256 ^ k := by
  intro k
  induction k with
  | zero => intro xs h; have : xs = [] := List.length_eq_zero_iff.1 (by omega); subst this; simp [valB]
  | succ k ih =>
    intro xs h
    by_cases hx : xs = []
    · subst hx; simp [valB]; exact Nat.pos_of_ne_zero (by simp)
    · have e := (List.dropLast_concat_getLast hx).symm
      rw [e, valB, List.foldl_append]
      have := ih xs.dropLast (by simp; omega)
      unfold valB at this
      simp only [Ybn, Ybl]
      have hb := (xs.getLast hx).toNat_lt
      rw [Nat.pow_succ]; omega
theorem shl8_or (n : Nat) (b : UInt8) (hn : n < 2 ^ 48) : IntKind.i64.wrap ((BitVec.ofInt 64 (IntKind.i64.wrap ((n : Int) * 2 ^ min 8 64)) ||| BitVec.ofInt 64 (IntKind.i64.wrap (b.toNat : Int))).toNat : Int) = ((n * 256 + b.toNat : Nat) : Int) := by
  have hb := b.toNat_lt
  have h1 : IntKind.i64.wrap ((n : Int) * 2 ^ min 8 64) = ((n * 256 : Nat) : Int) := by
    rw [show (2 : Int) ^ min 8 64 = 256 by decide, Zft (by omega) (by omega)]; omega
  have h2 : IntKind.i64.wrap (b.toNat : Int) = (b.toNat : Int) := Zft (by omega) (by omega)
  have h3 : ∀ m : Nat, m < 2 ^ 64 → (BitVec.ofInt 64 (m : Int)).toNat = m := by
    intro m hm
    rw [BitVec.toNat_ofInt]
    omega
  rw [h1, h2, BitVec.toNat_or, h3 _ (by omega), h3 _ (by omega)]
  have h4 : n * 256 ||| b.toNat = n * 256 + b.toNat := by
    have := Nat.shiftLeft_add_eq_or_of_lt (i := 8) (b := b.toNat) (by omega) n
    rw [Nat.shiftLeft_eq] at this
    rw [show (2 : Nat) ^ 8 = 256 by decide] at this
    exact this.symm
  rw [h4, Zft (by omega) (by omega)]
theorem Zry (xs : List UInt8) (b : UInt8) : valB (xs ++ [b]) = valB xs * 256 + b.toNat := by simp [valB, List.foldl_append]
theorem valB_48 {xs : List UInt8} (h : xs.length ≤ 6) : valB xs < 2 ^ 48 := by
  have := valB_lt 6 xs h
  have e : (256 : Nat) ^ 6 = 2 ^ 48 := by decide
  rw [← e]; exact this
theorem shl8_or' (n : Nat) (b : UInt8) (hn : n < 2 ^ 48) : IntKind.i64.wrap ((BitVec.ofInt IntKind.i64.bits (IntKind.i64.wrap ((n : Int) * 2 ^ min 8 64)) ||| BitVec.ofInt IntKind.i64.bits (IntKind.i64.wrap (b.toNat : Int))).toNat : Int) = ((n * 256 + b.toNat : Nat) : Int) := shl8_or n b hn
theorem w84 (a : D) (xs : List UInt8) (ha : Rd a (byE xs)) (hx : xs.length ≤ 100000) (h : List O) : wc 84 [a] h = some (.val (Zmf xs).d, h) := by
  have la := Zor ha
  have hcv : ∀ i, wcv 84 i = [] := fun _ => rfl
  have hres : Try.f84.results.toList = [ResultVar.tmp 2, ResultVar.tmp 3, ResultVar.tmp 4] := rfl
  rw [wc, Zbm rfl Try.func84 rfl]
  cases xs with
  | nil =>
    have e1 : (((0 : Nat) : Int) == 0) = true := by decide
    simp only [Zbj, Yap, Yaq, Nat.reduceSub, Yae, Yaj, Yar, Zai, Zbw, Zb2, Zhn, Zi4, Zic, Za7, Zak, Za3, Zgy, Zeg, Zae, Zan, Zbd, Za9, Yao, Yan, Yau, ne_eq, reduceCtorEq, not_false_eq_true, implies_true, Ya2, Yas, Yat, Yak, Yal, Zau, Zdv, ↓reduceIte, Za4, Za0, Za6, Za2, Zap, Zab, Zag, Zam, Zcw, Zb6, Zay, Zd0, Zb3, Zad, Zac, Zal, Zeu, Zcq, Zbr, Zcy, Zcx, Yb9, Ybb, false_imp_iff, and_true, and_self, Option.some.injEq, Prod.mk.injEq, Yah, Yaw, Yaz, Za1 (hcv _), Try.ntmps84, hres, ha.ownD, la, e1, Zho, Zil, Zmk, Ziq, Zir, Zip, Zhp, Zks, Zrs, beq_self_eq_true]
    rfl
  | cons m ys =>
  have hm := m.toNat_lt
  have la : ∀ H, len0 Try.prog 31 a H = some (ys.length + 1) := fun H => by rw [la]; rfl
  have e1 : (((ys.length + 1 : Nat) : Int) == 0) = false := by simp; omega
  have i0 : Zeh Try.prog 31 a (.e (.int .i64 0)) = some (.rptr [.int .u8 (m.toNat : Int)] 0) := by_ix (i := 0) ha rfl
  have wm : IntKind.i64.wrap (m.toNat : Int) = (m.toNat : Int) := Zft (by omega) (by omega)
  generalize hM : m.toNat = M at *
  simp only [Zmf, hM]
  by_cases h6 : 6 < M
  · have e2 : decide (6 < (M : Int)) = true := by simp; omega
    simp only [Zbj, Yap, Yaq, Nat.reduceSub, Yae, Yaj, Yar, Zai, Zbw, Zb2, Zhn, Zi4, Zic, Za7, Zak, Zao, Za3, Zgy, Zeg, Zae, Zan, Zbd, Za9, Yao, Yan, Yau, ne_eq, reduceCtorEq, not_false_eq_true, implies_true, Ya2, Yas, Yat, Yak, Yal, Zau, Zdv, ↓reduceIte, Za4, Za0, Za6, Zcs, Zbo, Za2, Zaf, Zap, Zab, Zag, Zam, Zcw, Zb6, Zeo, Zay, Zdr, Zd0, Zb3, Zad, Zac, Zal, Zeu, Zcq, Zbr, Zcy, Zcx, Yb9, Ybb, false_imp_iff, and_true, and_self, Option.some.injEq, Prod.mk.injEq, Ze3, Zj0, Yah, Zaj, Yaw, Yaz, Yab, sz5, ag5, Za1 (hcv _), Try.ntmps84, hres, ha.ownD, la, e1, i0, Zez Try.underlying5 Try.underlying3, wm, e2, h6, Zho, Zil, Zmk, Ziq, Zir, Zip, Zhp, Zks, Zrs, beq_self_eq_true]
    rfl
  have e2 : decide (6 < (M : Int)) = false := by simp; omega
  by_cases hs : ys.length < M
  · have e3 : decide (((ys.length + 1 : Nat) : Int) ≤ (M : Int)) = true := by simp; omega
    simp only [Zbj, Yap, Yaq, Nat.reduceSub, Yae, Yaj, Yar, Zai, Zbw, Zb2, Zhn, Zi4, Zic, Za7, Zak, Zao, Za3, Zgy, Zeg, Zae, Zan, Zbd, Za9, Yao, Yan, Yau, ne_eq, reduceCtorEq, not_false_eq_true, implies_true, Ya2, Yas, Yat, Yak, Yal, Zau, Zdv, ↓reduceIte, Za4, Za0, Za6, Zcs, Zbo, Za2, Zaf, Zap, Zab, Zag, Zam, Zcw, Zb6, Zfx, Zeo, Zay, Zf0, Zdr, Zd0, Zb3, Zad, Zac, Zal, Zeu, Zcq, Zbr, Zcy, Zcx, Yb9, Ybb, false_imp_iff, and_true, and_self, Option.some.injEq, Prod.mk.injEq, Ze3, Zj0, Yah, Zaj, Yaw, Yaz, Yab, sz5, ag5, Za1 (hcv _), Try.ntmps84, hres, ha.ownD, la, e1, i0, Zez Try.underlying5 Try.underlying3, wm, e2, e3, h6, hs, Zho, Zil, Zmk, Ziq, Zir, Zip, Zhp, Zks, Zrs, beq_self_eq_true]
    rfl
  have e3 : decide (((ys.length + 1 : Nat) : Int) ≤ (M : Int)) = false := by simp; omega
  have w1 : IntKind.i64.wrap (1 + (M : Int)) = ((1 + M : Nat) : Int) := by rw [Zft (by omega) (by omega)]; omega
  have s1 : Zkv Try.prog 31 a (some (.e (.int .i64 1))) (some (.e (.int .i64 ((1 + M : Nat) : Int)))) none = some (.e (.sl (byE (ys.take M)))) := by
    rw [Zl9 (h := 1 + M) (l := 1) ha (by rw [bndO, Zku (by simp; omega)]) (by rw [bndO, show (1 : Int) = ((1 : Nat) : Int) by rfl, Zku (by omega)])]
    rw [show 1 + M = M + 1 by omega, List.take_succ_cons, Yb7, Yb8]
  have s2 : Zkv Try.prog 31 a (some (.e (.int .i64 ((1 + M : Nat) : Int)))) none none = some (.e (.sl (byE (ys.drop M)))) := by
    rw [Zl9 (h := (m :: ys).length) (l := 1 + M) ha rfl (by rw [bndO, Zku (by simp; omega)])]
    rw [List.take_length, show 1 + M = M + 1 by omega, Yb7]
  have hc := Zmc (a := .e (.sl (byE (ys.drop M)))) (xs := ys.drop M) Rd.e (by simp at hx ⊢; omega)
  have hzl : (ys.take M).length = M := by simp; omega
  have lz : ∀ h, len0 Try.prog 31 (.e (.sl (byE (ys.take M)))) h = some M := fun h => by rw [Zu4, Zk6, hzl]
  simp only [Zbj, Yap, Yaq, Nat.reduceSub, Yae, Yaj, Yar, Zai, Zbw, Zc5, Zi4, Zic, Za7, Zao, Za3, Zae, Zan, Zbd, Za9, Yao, Yan, Yau, ne_eq, reduceCtorEq, not_false_eq_true, implies_true, Ya2, Yas, Yat, Yak, Yal, Zau, ↓reduceIte, Za4, Zea, Za0, Za6, Zcs, Zgt, Zbo, Za2, Zaf, Zap, Zab, Zag, Zam, Zcw, Zgr, Zgq, Zdc, Zb6, Zfx, Zeo, Zcz, Zay, Zf0, Zdr, Zd0, Ze3, Zj0, Yah, Zaj, Yaw, Yaz, Yab, sz5, ag5, Za1 (hcv _), Try.ntmps84, ha.ownD, la, e1, i0, Zez Try.underlying5 Try.underlying3, wm, e2, e3, h6, hs, w1, s1, lz]
  refine Zff (fun (n : Nat) (s : St) => ∃ i : Nat, (i + n = M) ∧ ∃ zs_, s = ⟨mkT [some (a), none, some (.int .i64 (valB ((ys.take M).take i) : Int)), some (.osl false true 0 []), some (.int .i64 11), some (.int .i64 M), none, none, none, none, none, none, none, none, none, none, none, none, none, none, none, none, none, none, some (.e (.sl (byE (ys.take M)))), some (.int .i64 M), some (.int .i64 i), none, none, none, none, none, none, none, none, none, none, none, none, none, none, none, none, none, none, none, none, none, none, none, none, none, none, none, none] zs_ 0, [], .no, h⟩) ?_ (M) ⟨0, by omega, Zd8 rfl rfl rfl rfl⟩
  rintro n _ ⟨i, hf_o, zs_o, rfl⟩ IH_o
  have hn := hf_o
  by_cases hi : i < M
  rotate_left
  · have e4 : decide ((i : Int) < (M : Int)) = false := by simp; omega
    have hz : (ys.take M).take i = ys.take M := List.take_of_length_le (by omega)
    rw [hz]
    by_cases h0 : M = 0
    · subst h0
      have e5 : (((0 : Nat) : Int) == 0) = true := by decide
      have hv : valB (ys.take 0) = 0 := rfl
      rw [hv]
      rw [Yb8] at hc s2
      simp only [Yap, Yaq, Nat.reduceAdd, Zai, Zb2, Zfv, Za7, Zak, Zao, Za3, Zc0, Zeq, Zer, Ze2, Zeg, Zae, Zan, Zbf, Zbg, Zas, Za9, Zbq, Ze8, Zke, St.put, Yao, Yam, Yan, Yau, Nat.reduceLT, ne_eq, reduceCtorEq, not_false_eq_true, implies_true, Bool.not_false, Yav, Ya2, Yas, Yat, Yak, Yal, Zau, Yax, Yay, Ybp, ↓reduceIte, Za0, Za6, Zat, Zgt, Za2, Zaf, Zap, Zbh, Zab, Zag, Zaq, Zah, Zam, Zax, Zgr, Zgq, Zdc, Zb6, Zc6, Zcz, Zay, Zbs, Zb3, Zad, Zac, Zal, Zeu, Zcq, Zbr, Zcy, Zcx, Yb9, Ybb, false_imp_iff, and_true, and_self, Option.some.injEq, Prod.mk.injEq, mkT, Ybd, Yb3, Ybq, Nat.add_zero, Yaw, Za1 (hcv _), hres, e4, e5, ha.ownD, w1, s2, hc, beq_self_eq_true, Zci, taken, Zbi, Zdj, Nat.reduceBEq, Zdd, Zcn, Zd6, Zcg]
      rfl
    · have e5 : ((M : Int) == 0) = false := by simp; omega
      obtain ⟨y, zs, rfl⟩ : ∃ y zs, ys = y :: zs := by
        cases ys with
        | nil => simp at hs; omega
        | cons y zs => exact ⟨y, zs, rfl⟩
      have i1 : Zeh Try.prog 31 a (.e (.int .i64 1)) = some (.rptr [.int .u8 (y.toNat : Int)] 0) := by_ix (i := 1) ha rfl
      have hg : (y :: zs).getD 0 0 = y := rfl
      rw [if_neg h0, hg]
      generalize hV : valB ((y :: zs).take M) = V
      by_cases hy : 0 < y.toNat
      · have e6 : decide (0 < (y.toNat : Int)) = true := by simp; omega
        by_cases hv : V ≤ 1099511627776
        · have e7 : decide ((V : Int) ≤ 1099511627776) = true := by simp; omega
          rw [if_pos ⟨hy, hv⟩]
          simp only [Yap, Yaq, Nat.reduceAdd, Zai, Zb2, Zfv, Za7, Zak, Zao, Za3, Zc0, Zeq, Zer, Ze2, Zeg, Zae, Zan, Zbf, Zbg, Zas, Za9, Zbq, Zch, Yao, Yam, Yan, Yau, Nat.reduceLT, ne_eq, reduceCtorEq, not_false_eq_true, implies_true, Yav, Ya2, Yas, Yat, Yak, Yal, Zau, Yax, Yay, Ybp, ↓reduceIte, Za0, Za6, Zat, Zgt, Zbo, Za2, Zaf, Zap, Zab, Zag, Zaq, Zah, Zam, Zgr, Zgq, Zdc, Zb6, Zc6, Zfx, Zeo, Zcz, Zay, Zbs, Zf0, Zdr, Zb3, Zad, Zac, Zal, Zeu, Zcq, Zbr, Zcy, Zcx, Yb9, Ybb, false_imp_iff, and_true, and_self, Option.some.injEq, Prod.mk.injEq, mkT, Ze3, Zj0, Zaj, Yb3, Ybq, Yaw, Yab, sz5, ag5, Za1 (hcv _), hres, e4, e5, e6, e7, ha.ownD, i1, w1, s2, hc, beq_self_eq_true, back, Zci, taken, Zbi, Zdj, Nat.reduceBEq, Zdd, Zcn, Zd6, Zcg]
          rfl
        · have e7 : decide ((V : Int) ≤ 1099511627776) = false := by simp; omega
          rw [if_neg (fun x => hv x.2)]
          simp only [Yap, Yaq, Nat.reduceAdd, Zai, Zbw, Zb2, Zfv, Zkc, Za7, Zao, Za3, Zeq, Zer, Ze2, Zeg, Zae, Zan, Zas, Za9, Zch, Yao, Yam, Yan, Yau, Nat.reduceLT, ne_eq, reduceCtorEq, not_false_eq_true, implies_true, Yav, Ya2, Yas, Yat, Yak, Yal, Zau, Zdv, Yax, Yay, Ybp, ↓reduceIte, Za0, Za6, Zat, Zbo, Za2, Zaf, Zap, Zab, Zag, Zam, Zcw, Zb6, Zc6, Zfx, Zeo, Zay, Zbs, Zf0, Zdr, Zb3, Zad, Zac, Zal, Zeu, Zcq, Zbr, Zcy, Zcx, Yb9, Ybb, false_imp_iff, and_true, and_self, Option.some.injEq, Prod.mk.injEq, mkT, Ze3, Zj0, Zaj, Yb3, Ybq, Yaw, Yab, sz5, ag5, Za1 (hcv _), hres, e4, e5, e6, e7, ha.ownD, i1, beq_self_eq_true, back, Zci, taken, Zbi, Zdj]
          rfl
      · have e6 : decide (0 < (y.toNat : Int)) = false := by simp; omega
        rw [if_neg (fun x => hy x.1)]
        simp only [Yap, Yaq, Nat.reduceAdd, Zai, Zbw, Zb2, Zfv, Zkc, Za7, Zao, Za3, Zeq, Zer, Ze2, Zeg, Zae, Zan, Zas, Za9, Zch, Ze8, St.put, Yao, Yam, Yan, Yau, Nat.reduceLT, ne_eq, reduceCtorEq, not_false_eq_true, implies_true, Bool.not_true, Yav, Ya2, Yas, Yat, Yak, Yal, Zau, Zdv, Yax, Yay, Ybp, ↓reduceIte, Za0, Za6, Zat, Zbo, Za2, Zaf, Zap, Zbh, Zab, Zag, Zam, Zax, Zcw, Zb6, Zc6, Zeo, Zay, Zbs, Zdr, Zb3, Zad, Zac, Zal, Zeu, Zcq, Zbr, Zcy, Zcx, Yb9, Ybb, false_imp_iff, and_true, and_self, Option.some.injEq, Prod.mk.injEq, mkT, Ze3, Zj0, Zaj, Yb3, Ybq, Yaw, Yab, sz5, ag5, Za1 (hcv _), hres, e4, e5, e6, ha.ownD, i1, beq_self_eq_true, back, Zci, taken, Zbi, Zdj]
        rfl
  have e4 : decide ((i : Int) < (M : Int)) = true := by simp; omega
  have hbi : (ys.take M)[i]? = some ((ys.take M)[i]'(by omega)) := List.getElem?_eq_getElem (by omega)
  have htk : (ys.take M).take (i + 1) = (ys.take M).take i ++ [(ys.take M)[i]'(by omega)] := List.take_succ_eq_append_getElem (by omega)
  generalize (ys.take M)[i]'(by omega) = b at hbi htk
  have ib := by_ix (a := .e (.sl (byE (ys.take M)))) Rd.e hbi
  have hor := shl8_or' (valB ((ys.take M).take i)) b (valB_48 (by simp; omega))
  rw [← Zry, ← htk] at hor
  simp only [IntKind.bits] at hor
  simp only [Yap, Yaq, Nat.reduceAdd, Zai, Zbw, Zc5, Za7, Zak, Za3, Zcd, Zdx, Zae, Zan, Za9, Yan, Yau, ne_eq, reduceCtorEq, not_false_eq_true, implies_true, Yav, Ya2, Yas, Yat, Yak, Yal, Zau, Yax, Yay, Ybp, ↓reduceIte, Za0, Za6, Zcs, Zbo, Za2, Zaf, Zab, Zag, Zam, Zdc, Zmd, Zc6, Zi5, Zgj, Int.reduceLT, Int.reduceToNat, IntKind.bits, Zcz, Zki, Zbs, mkT, Ze3, Zj0, Zaj, Yb3, Yaw, Yab, sz5, ag5, Za1 (hcv _), e4, ib, Zez Try.underlying5 Try.underlying3, hor, Zp7 hi (show M ≤ 1099511627776 by omega), beq_self_eq_true, back, Zci, taken, Zbi, Zdj, Nat.reduceBEq]
  refine IH_o (M - (i + 1)) _ (by omega) ⟨i + 1, by omega, Zd8 rfl rfl rfl rfl⟩
end Go.Abs
namespace Go.Abs
open Go Go.Proofs
set_option maxRecDepth 10000
set_option maxHeartbeats 4000000
def Znh : List UInt8 → Option (List UInt8 × List UInt8)
  | [] => none
  | m :: ys => if ys.length < m.toNat then none else some (ys.take m.toNat, ys.drop m.toNat)
def textD : Option (List UInt8 × List UInt8) → D
  | none => .tup [.str { data := #[] }, .osl false true 0 [], .int .i64 11]
  | some (s, rest) => .tup [.str (BA s), .osl true false 1 (byE rest), .int .i64 0]
theorem w85 (a : D) (xs : List UInt8) (ha : Rd a (byE xs)) (hx : xs.length ≤ 100000) (h : List O) : wc 85 [a] h = some (.val (textD (Znh xs)), h) := by
  have la := Zor ha
  have hcv : ∀ i, wcv 85 i = [] := fun _ => rfl
  have hres : Try.f85.results.toList = [ResultVar.tmp 2, ResultVar.tmp 3, ResultVar.tmp 4] := rfl
  rw [wc, Zbm rfl Try.func85 rfl]
  cases xs with
  | nil =>
    have e1 : (((0 : Nat) : Int) == 0) = true := by decide
    simp only [Zbj, Yap, Yaq, Nat.reduceAdd, Nat.reduceSub, Yae, Yaj, Yar, Zai, Zb2, Za7, Zak, Za3, Zc0, Zae, Zan, Zbd, Zas, Za9, Ze8, St.put, Yao, Yam, Yan, Yau, Nat.reduceLT, ne_eq, reduceCtorEq, not_false_eq_true, implies_true, Bool.not_false, Ya2, Yas, Yat, Yak, Yal, Zau, Zdv, ↓reduceIte, Za4, Za0, Za6, Zat, Za2, Zap, Zbh, Zab, Zag, Zam, Zax, Zja, Zcw, Zb6, Zay, Zd0, Zb3, Zad, Zac, Zal, Zeu, Zcq, Zbr, Zcy, Zcx, Yb9, Ybb, false_imp_iff, and_true, and_self, Option.some.injEq, Prod.mk.injEq, Yah, Yaw, Yaz, Za1 (hcv _), Try.ntmps85, hres, ha.ownD, la, e1]
    rfl
  | cons m ys =>
  have hm := m.toNat_lt
  have la : ∀ H, len0 Try.prog 31 a H = some (ys.length + 1) := fun H => by rw [la]; rfl
  have e1 : (((ys.length + 1 : Nat) : Int) == 0) = false := by simp; omega
  have i0 : Zeh Try.prog 31 a (.e (.int .i64 0)) = some (.rptr [.int .u8 (m.toNat : Int)] 0) := by_ix (i := 0) ha rfl
  have wm : IntKind.i64.wrap (m.toNat : Int) = (m.toNat : Int) := Zft (by omega) (by omega)
  have wl : IntKind.i64.wrap (((ys.length + 1 : Nat) : Int) - 1) = (ys.length : Int) := by simp at hx; rw [Zft (by omega) (by omega)]; omega
  generalize hM : m.toNat = M at *
  simp only [Znh, hM]
  by_cases hs : ys.length < M
  · have e2 : decide ((ys.length : Int) < (M : Int)) = true := by simp; omega
    simp only [Zbj, Yap, Yaq, Nat.reduceAdd, Nat.reduceSub, Yae, Yaj, Yar, Zai, Zb2, Za7, Zak, Za3, Zc0, Zae, Zan, Zbd, Zas, Za9, Zch, Yao, Yam, Yan, Yau, Nat.reduceLT, ne_eq, reduceCtorEq, not_false_eq_true, implies_true, Yav, Ya2, Yas, Yat, Yak, Yal, Zau, Zdv, ↓reduceIte, Za4, Za0, Za6, Zcs, Zat, Zbo, Za2, Zaf, Zap, Zab, Zag, Zam, Zja, Zcw, Zgn, Zb6, Zc6, Zg1, Zay, Zbs, Zd0, Zb3, Zad, Zac, Zal, Zeu, Zcq, Zbr, Zcy, Zcx, Yb9, Ybb, false_imp_iff, and_true, and_self, Option.some.injEq, Prod.mk.injEq, Ze3, Zj0, Yah, Zaj, Yaw, Yaz, Yab, sz5, ag5, Za1 (hcv _), Try.ntmps85, hres, ha.ownD, la, e1, i0, wl, Zez Try.underlying5 Try.underlying3, wm, e2, hs]
    rfl
  have e2 : decide ((ys.length : Int) < (M : Int)) = false := by simp; omega
  have w1 : IntKind.i64.wrap (1 + (M : Int)) = ((1 + M : Nat) : Int) := by rw [Zft (by omega) (by omega)]; omega
  have s1 : Zkv Try.prog 31 a (some (.e (.int .i64 1))) (some (.e (.int .i64 ((1 + M : Nat) : Int)))) none = some (.e (.sl (byE (ys.take M)))) := by
    rw [Zl9 (h := 1 + M) (l := 1) ha (by rw [bndO, Zku (by simp; omega)]) (by rw [bndO, show (1 : Int) = ((1 : Nat) : Int) by rfl, Zku (by omega)])]
    rw [show 1 + M = M + 1 by omega, List.take_succ_cons, Yb7, Yb8]
  have s2 : Zkv Try.prog 31 a (some (.e (.int .i64 ((1 + M : Nat) : Int)))) none none = some (.e (.sl (byE (ys.drop M)))) := by
    rw [Zl9 (h := (m :: ys).length) (l := 1 + M) ha rfl (by rw [bndO, Zku (by simp; omega)])]
    rw [List.take_length, show 1 + M = M + 1 by omega, Yb7]
  have hc := Zmc (a := .e (.sl (byE (ys.drop M)))) (xs := ys.drop M) Rd.e (by simp at hx ⊢; omega)
  have hcs := Zna (a := .e (.sl (byE (ys.take M)))) (xs := ys.take M) Zkw
  simp only [Zbj, Yap, Yaq, Nat.reduceAdd, Nat.reduceSub, Yae, Yaj, Yar, Zai, Zbw, Za7, Zao, Za3, Zae, Zan, Zbd, Zas, Za9, Zch, Yao, Yam, Yan, Yau, Nat.reduceLT, ne_eq, reduceCtorEq, not_false_eq_true, implies_true, Yav, Ya2, Yas, Yat, Yak, Yal, Zau, ↓reduceIte, Za4, Za0, Za6, Zcs, Zat, Zbo, Zaf, Zap, Zab, Zag, Zam, Zja, Zcw, Zgn, Zb6, Zc6, Zg1, Zay, Zbs, Zd0, Option.some.injEq, Ze3, Zj0, Yah, Zaj, Yaw, Yaz, Yab, sz5, ag5, Za1 (hcv _), Try.ntmps85, ha.ownD, la, e1, i0, wl, Zez Try.underlying5 Try.underlying3, wm, e2, hs]
  refine (Zed (l := Zv0) (by exact Zyb)).trans ?_
  simp only [Yap, Yaq, Yaj, Yar, Zai, Za3, Yao, Yam, Yan, Yau, ne_eq, reduceCtorEq, not_false_eq_true, implies_true, Bool.not_false, Ya2, Yas, Yat, Yak, Yal, Zau, Zm0, Yax, Yay, ↓reduceIte, Za0, Za6, Zcs, Zgt, Zbo, Za2, Zaf, Zab, Zag, Zam, Zgr, Zgq, Zdc, Zcz, and_self, List.toList_toArray, Option.some.injEq, Zdy, kd_l, Zc3, Zc2, kd_r, Zc4, Zdo, Zc7, Zbc, Zbv, Zaz, Zd1, Zcv, Zcb, Zlr, Zby, Zbx, Zdz, Zgk, Zhz, Zkb, Zg9, Op.operands, Zdn, Ybl, Array.toList_append, Yaf, Ze3, Zj0, Yb3, Yaw, Yab, sz5, ag5, hcv, kd_h, Zbz, Zes, Zdf, Zc1, Zce, Zcc, List.all_cons, List.all_nil, Bool.and_self, Zv0, ha.ownD, i0, Zez Try.underlying5 Try.underlying3, wm, w1, s1, s2, Option.toArray_none, Option.toArray_some]
  refine (Zed (l := Zuz) (by exact Zya)).trans ?_
  simp only [Zb2, Za3, Yao, Yam, Yan, ne_eq, reduceCtorEq, not_false_eq_true, implies_true, Bool.not_false, Ya2, Yas, Yat, Yak, Yal, Zau, Yax, Yay, ↓reduceIte, Za0, Zcs, Za2, Zaf, Zap, Zaq, Zah, Zam, Zb3, Zad, Zac, Zal, Zeu, Zcq, Zbr, Zcy, Zcx, Yb9, Ybb, false_imp_iff, and_true, and_self, List.toList_toArray, Option.some.injEq, Prod.mk.injEq, Zdy, kd_l, Zc3, Zc2, Zc7, Zbc, Zbv, Zaz, Zd1, Zcv, Zby, Zbx, Zhz, Op.operands, Zdn, Ybl, Yb3, hcv, hres, kd_h, Zbz, Zcj, Zck, Zes, Zdp, Zdf, Zc1, Zce, excD_e, List.all_cons, List.all_nil, Bool.and_self, Zuz, hcs, hc, Zdd, Zcn, Zd6, Zcg]
  rfl
end Go.Abs
