/-
  WIRE: num.TakeList. WIRE: the writer. WIRE: the writer, texts, lists, truths, pairs. WIRE: the writer, pairs, what kinds have. WIRE: what kinds have, put. WIRE: the map of what kinds have, put. WIRE: which messages may be: plain. No condition.
-/
import Derived.Test.YtkimilghfbgjmaaP20

namespace Go.Abs
open Go Go.Proofs
set_option maxRecDepth 10000
set_option maxHeartbeats 4000000

/-- Numbers that are taken one by one: the numbers, what is behind them; or what is wrong. -/
def Zic : Nat → List UInt8 → Except Int (List Nat × List UInt8)
  | 0, xs => .ok ([], xs)
  | k + 1, xs => match takeB xs with
    | .short => .error 11
    | .form => .error 12
    | .ok n rest => match Zic k rest with
      | .ok (l, r) => .ok (n :: l, r)
      | .error e => .error e
def takeL : List UInt8 → Except Int (List Nat × List UInt8)
  | [] => .error 11
  | m :: ys => Zic m.toNat ys
def Zip (l : List Nat) : List Int := l.map fun (x : Nat) => (x : Int)
/-- Numbers that grow. -/
def slN (l : List Nat) : D := match l with
  | [] => .osl false true 0 []
  | n :: l => .osl true false 1 (isE (Zip (n :: l)))
def listD : Except Int (List Nat × List UInt8) → D
  | .error e => .tup [.osl false true 0 [], .osl false true 0 [], .int .i64 e]
  | .ok (l, rest) => .tup [slN l, .osl true false 1 (byE rest), .int .i64 0]

theorem takeB_rest {xs rest : List UInt8} {n : Nat} (h : takeB xs = .ok n rest) : rest.length ≤ xs.length := by
  cases xs with
  | nil => simp [takeB] at h
  | cons m ys =>
    simp only [takeB] at h
    split at h
    · cases h
    · split at h
      · cases h
      · split at h
        · cases h; simp
        · split at h
          · cases h; simp; omega
          · cases h
theorem bs22_1 {a : Int} : Ze9 Try.prog 22 1 [(0, .e (.int .i64 a))] = some (.osl true true 1 [[.int .i64 a]]) := by
  simp [Ze9, el22, sz3, Zed, zo3, replD, fillD, cellsOf, notTup, Zeq, chunk, rowsE, toEs, toE]
theorem app22n {a : Int} : Zfi Try.prog 22 (.osl false true 0 []) (.osl false true 1 [[.int .i64 a]]) false = some (.osl true false 1 [[.int .i64 a]]) := by
  simp [Zfi, el22, sz3, by3, Zed, zo3, slOf, notTup, cellsOf, okRows]
theorem app22 {ex fu : Bool} {es : List (List E)} {a : Int} (hne : es ≠ []) (hl : es.length ≤ 1000000) : Zfi Try.prog 22 (.osl ex fu 1 es) (.osl false true 1 [[.int .i64 a]]) false = some (.osl ex false 1 (es ++ [[.int .i64 a]])) := by
  have : es.isEmpty = false := by cases es <;> simp_all
  simp [Zfi, el22, sz3, by3, Zed, zo3, slOf, notTup, cellsOf, okRows, this]
  omega
theorem app_slN {l : List Nat} {n : Nat} (hl : l.length ≤ 1000) : Zfi Try.prog 22 (slN l) (.osl false true 1 [[.int .i64 (n : Int)]]) false = some (slN (l ++ [n])) := by
  cases l with
  | nil => exact app22n
  | cons x l =>
    have := app22 (ex := true) (fu := false) (es := isE (Zip (x :: l))) (a := (n : Int)) (by simp [isE, Zip]) (by simp [isE, Zip] at hl ⊢; omega)
    simp only [slN, List.cons_append]
    rw [this]
    simp [isE, Zip]


/-- Numbers ahead. -/
def preL (got : List Nat) : Except Int (List Nat × List UInt8) → Except Int (List Nat × List UInt8)
  | .ok (l, r) => .ok (got ++ l, r)
  | .error e => .error e
theorem preL_nil (r : Except Int (List Nat × List UInt8)) : preL [] r = r := by cases r <;> rfl
theorem preL_snoc {k : Nat} {xs rest : List UInt8} {n : Nat} {got : List Nat} (h : takeB xs = .ok n rest) : preL got (Zic (k + 1) xs) = preL (got ++ [n]) (Zic k rest) := by
  simp only [Zic, h]
  cases Zic k rest with
  | error e => rfl
  | ok q => obtain ⟨l, r⟩ := q; simp [preL]

theorem w86 (a : D) (xs : List UInt8) (ha : Rd a (byE xs)) (hx : xs.length ≤ 100000) (h : List O) : wc 86 [a] h = some (.val (listD (takeL xs)), h) := by
  have la := by_len ha
  have hcv : ∀ i, wcv 86 i = [] := fun _ => rfl
  have hres : Try.f86.results.toList = [ResultVar.tmp 2, ResultVar.tmp 3, ResultVar.tmp 4] := rfl
  rw [wc, Zbt rfl Try.func86 rfl]
  cases xs with
  | nil =>
    have e1 : (((0 : Nat) : Int) == 0) = true := by decide
    simp only [Zbi, List.length_cons, List.length_nil, Nat.reduceSub, List.replicate, List.cons_append, List.nil_append, Zaj, Zaz, Za7, Zal, Za3, Zbr, Zae, Zao, Zbb, Za9, List.getElem?_toArray, List.getElem?_cons_zero, Option.bind_some, ne_eq, reduceCtorEq, not_false_eq_true, implies_true, Option.map_some, List.set_cons_succ, List.set_cons_zero, List.getD_cons_succ, List.getD_cons_zero, Zau, Zdj, Za2, Za0, Za6, Za4, Zaq, Zac, Zai, Zan, Zcj, Zb8, Zay, Zd0, Zb0, Zab, Zaa, Zah, Zea, Zcn, Zbm, Zcx, Zcw, List.forall_mem_cons, List.not_mem_nil, false_imp_iff, and_true, and_self, Option.some.injEq, Prod.mk.injEq, Option.bind_eq_bind, Nat.zero_add, Option.pure_def, Za1 (hcv _), Try.ntmps86, hres, ha.ownD, la, e1]
    rfl
  | cons m ys =>
  have hm := m.toNat_lt
  have la : ∀ H, len0 Try.prog 31 a H = some (ys.length + 1) := fun H => by rw [la]; rfl
  have e1 : (((ys.length + 1 : Nat) : Int) == 0) = false := by simp; omega
  have i0 : Zdr Try.prog 31 a (.e (.int .i64 0)) = some (.rptr [.int .u8 (m.toNat : Int)] 0) := by_ix (i := 0) ha rfl
  have s1 : sliceD Try.prog 31 a (some (.e (.int .i64 1))) none none = some (.e (.sl (byE ys))) := by
    rw [by_slice (h := (m :: ys).length) (l := 1) ha rfl (by rw [bndO, show (1 : Int) = ((1 : Nat) : Int) by rfl, bnd_nat (by simp)])]
    rw [List.take_length, List.drop_succ_cons, List.drop_zero]
  have hc := clone31 (a := .e (.sl (byE ys))) (xs := ys) Rd.e (by simp at hx ⊢; omega)
  generalize hM : m.toNat = M at *
  simp only [takeL, hM]
  simp only [Zbi, List.length_cons, List.length_nil, Nat.reduceSub, List.replicate, List.cons_append, List.nil_append, Zaj, Zbz, Zc3, Za7, Zar, Za3, Zae, Zao, Zbb, Zbe, Zbf, Za9, Zbq, List.getElem?_toArray, List.getElem?_cons_zero, Option.bind_some, ne_eq, reduceCtorEq, not_false_eq_true, implies_true, Bool.false_eq_true, Option.map_some, List.set_cons_succ, List.set_cons_zero, List.getD_cons_succ, List.getD_cons_zero, Zau, List.any_cons, List.any_nil, ↓reduceIte, Za0, Za6, Zg9, Zbl, Za4, Zaf, Zaq, Zb7, Zac, Zai, Zaw, Zap, Zan, Zcj, Zg8, Zg7, Zb8, Zay, Zd0, Zdh, Zim, Option.bind_eq_bind, Zag, Bool.or_self, Nat.zero_add, Option.pure_def, Nat.le_refl, sz5, ag5, Za1 (hcv _), Try.ntmps86, ha.ownD, la, e1, i0, s1, hc, back, Zcp, taken, Zbj, Zdo, Nat.reduceBEq, Zdb, Zcg, Zd1, Zc1]
  refine Zfd (fun (n : Nat) (s : St) => ∃ (i : Nat) (got : List Nat) (cur : List UInt8), (i + n = M ∧ got.length = i ∧ cur.length ≤ ys.length ∧ Zic M ys = preL got (Zic (M - i) cur)) ∧ ∃ zs_, s = ⟨mkT [some (a), none, some (slN got), some (.osl true false 1 (byE cur)), some (.e (.int .i64 0)), none, none, none, none, none, none, none, none, none, some (.e (.int .u8 M)), some (.int .u8 i), none, none, none, none, none, none, none, none, none, none, none, none, none, none, none, none, none] zs_ 0, [], .no, h⟩) ?_ (M) ⟨0, [], ys, ⟨by omega, rfl, Nat.le_refl _, (preL_nil _).symm⟩, Zd7 rfl rfl rfl rfl⟩
  rintro n _ ⟨i, got, cur, hf_o, zs_o, rfl⟩ IH_o
  obtain ⟨hn, hgl, hcl, ht⟩ := hf_o
  simp at hx
  by_cases hi : i < M
  rotate_left
  · have e2 : decide ((i : Int) < (M : Int)) = false := by simp; omega
    have hz : M - i = 0 := by omega
    rw [ht, hz]
    cases got with
    | nil =>
      simp only [Nat.reduceAdd, Zaj, Zaz, Zfe, Za7, Zar, Za3, Zeg, Zeh, Zdu, Zae, Zao, Za9, ne_eq, reduceCtorEq, not_false_eq_true, implies_true, Option.map_some, List.set_cons_succ, List.set_cons_zero, List.getD_cons_succ, List.getD_cons_zero, Zau, Zdj, List.any_cons, List.any_nil, Bool.or_false, ↓reduceIte, Za0, Za6, Za4, Zaq, Zac, Zan, Zc2, Zbv, Zb0, Zab, Zaa, Zah, Zea, Zcn, Zbm, Zcx, Zcw, List.forall_mem_cons, List.not_mem_nil, false_imp_iff, and_true, and_self, Option.some.injEq, Prod.mk.injEq, mkT, Bool.or_self, Bool.or_true, Nat.zero_add, Za1 (hcv _), hres, e2, slN, Zcp, taken, Zbj, Zdo, beq_self_eq_true, Nat.reduceBEq, Zdb, Zcg, Zd1, Zc1]
      rfl
    | cons g got =>
      simp only [Nat.reduceAdd, Zaj, Zaz, Zfe, Za7, Zar, Za3, Zeg, Zeh, Zdu, Zae, Zao, Za9, ne_eq, reduceCtorEq, not_false_eq_true, implies_true, Option.map_some, List.set_cons_succ, List.set_cons_zero, List.getD_cons_succ, List.getD_cons_zero, Zau, List.any_cons, List.any_nil, Bool.or_false, ↓reduceIte, Za0, Za6, Za4, Zaq, Zac, Zan, Zc2, Zbv, Zb0, Zab, Zaa, Zah, Zea, Zcn, Zbm, Zcx, Zcw, List.forall_mem_cons, List.not_mem_nil, false_imp_iff, and_true, and_self, Option.some.injEq, Prod.mk.injEq, mkT, Bool.or_self, Bool.or_true, Nat.zero_add, Za1 (hcv _), hres, e2, slN, Zcp, taken, Zbj, Zdo, beq_self_eq_true, Nat.reduceBEq, Zdb, Zcg, Zd1, Zc1]
      simp only [Zic, preL, List.append_nil, listD, slN]
  have e2 : decide ((i : Int) < (M : Int)) = true := by simp; omega
  have wi : IntKind.u8.wrap ((i : Int) + 1) = ((i + 1 : Nat) : Int) := by rw [IntKind.wrap_u8]; omega
  have h84 := w84 (.e (.sl (byE cur))) cur Rd.e (by omega)
  obtain ⟨k, hk⟩ : ∃ k, M - i = k + 1 := ⟨M - i - 1, by omega⟩
  rw [ht, hk]
  have e11 : ((11 : Int) != 0) = true := by decide
  have e12 : ((12 : Int) != 0) = true := by decide
  have e0 : ((0 : Int) != 0) = false := by decide
  cases htb : takeB cur with
  | short =>
    have hr : preL got (Zic (k + 1) cur) = .error 11 := by simp [Zic, htb, preL]
    rw [htb] at h84
    simp only [TakeR.d] at h84
    rw [hr]
    simp only [Nat.reduceAdd, Zaj, Zbz, Zaz, Zc3, Za7, Zal, Za3, Zbr, Zcl, Zfy, Zae, Zao, Zbe, Zbf, Za9, Zbq, List.getElem?_cons_succ, List.getElem?_cons_zero, ne_eq, reduceCtorEq, not_false_eq_true, implies_true, Bool.false_eq_true, Option.map_some, List.set_cons_succ, List.set_cons_zero, List.getD_cons_succ, List.getD_cons_zero, Zau, Zdj, List.any_cons, List.any_nil, Bool.or_false, ↓reduceIte, Za0, Za6, Zc7, Za4, Zaf, Zaq, Zac, Zai, Zaw, Zap, Zan, Zcj, Zel, Zc2, Ze0, Zbv, Zb0, Zab, Zaa, Zah, Zea, Zcn, Zbm, Zcx, Zcw, List.forall_mem_cons, List.not_mem_nil, false_imp_iff, and_true, and_self, Option.some.injEq, Prod.mk.injEq, mkT, Bool.or_self, Bool.or_true, Nat.zero_add, Za1 (hcv _), hres, e2, h84, e11, Zdd, Zgp, Zj1, Zcp, taken, Zbj, Zdo, beq_self_eq_true, Nat.reduceBEq, Zgo, Zf7, Zd1, shr_nf, Zf2]
    rfl
  | form =>
    have hr : preL got (Zic (k + 1) cur) = .error 12 := by simp [Zic, htb, preL]
    rw [htb] at h84
    simp only [TakeR.d] at h84
    rw [hr]
    simp only [Nat.reduceAdd, Zaj, Zbz, Zaz, Zc3, Za7, Zal, Za3, Zbr, Zcl, Zfy, Zae, Zao, Zbe, Zbf, Za9, Zbq, List.getElem?_cons_succ, List.getElem?_cons_zero, ne_eq, reduceCtorEq, not_false_eq_true, implies_true, Bool.false_eq_true, Option.map_some, List.set_cons_succ, List.set_cons_zero, List.getD_cons_succ, List.getD_cons_zero, Zau, Zdj, List.any_cons, List.any_nil, Bool.or_false, ↓reduceIte, Za0, Za6, Zc7, Za4, Zaf, Zaq, Zac, Zai, Zaw, Zap, Zan, Zcj, Zel, Zc2, Ze0, Zbv, Zb0, Zab, Zaa, Zah, Zea, Zcn, Zbm, Zcx, Zcw, List.forall_mem_cons, List.not_mem_nil, false_imp_iff, and_true, and_self, Option.some.injEq, Prod.mk.injEq, mkT, Bool.or_self, Bool.or_true, Nat.zero_add, Za1 (hcv _), hres, e2, h84, e12, Zdd, Zgp, Zj1, Zcp, taken, Zbj, Zdo, beq_self_eq_true, Nat.reduceBEq, Zgo, Zf7, Zd1, shr_nf, Zf2]
    rfl
  | ok v rest =>
    have hr := preL_snoc (got := got) (k := k) htb
    have hrl := takeB_rest htb
    rw [htb] at h84
    simp only [TakeR.d] at h84
    rw [hr]
    have hap := app_slN (l := got) (n := v) (by omega)
    have hgoal : Zic M ys = preL (got ++ [v]) (Zic (M - (i + 1)) rest) := by rw [ht, hk, hr]; congr 2; omega
    rw [← hr, ← hk, ← ht]
    cases got with
    | nil =>
      simp only [slN, List.nil_append] at hap
      simp only [Nat.reduceAdd, Zaj, Zbz, Zc3, Za7, Zal, Zar, Za3, Zc8, Ze8, Zae, Zao, Zbb, Zbe, Zbf, Za9, Zbq, List.getElem?_toArray, List.getElem?_cons_succ, List.getElem?_cons_zero, ne_eq, reduceCtorEq, not_false_eq_true, implies_true, Bool.false_eq_true, Option.map_some, List.set_cons_succ, List.set_cons_zero, List.getD_cons_succ, List.getD_cons_zero, Zau, Zdj, List.any_cons, List.any_nil, Bool.or_false, ↓reduceIte, Za0, Za6, Zby, Zc7, Za4, Zaf, Zaq, Zac, Zai, Zaw, Zap, Ze7, Zd9, Zan, Zdf, Zel, Zc2, Zcv, Ze0, Zbv, Zdi, mkT, Zcm, List.map_cons, List.map_nil, Bool.or_self, Bool.or_true, Nat.zero_add, Try.underlying22, Za1 (hcv _), e2, h84, e0, List.zip_cons_cons, List.zip_nil_right, bs22_1, slN, hap, wi, Zdd, Zgp, Zhr, Zfr, left_e, Zcp, taken, Zbj, Zdo, beq_self_eq_true, Nat.reduceBEq, Zdb, Zcg, Zgo, Zf7, Zev, Zd1, Zc1, Zi8, shr_fu, shr_nf, Zf2]
      refine IH_o (M - (i + 1)) _ (by omega) ⟨i + 1, [v], rest, ⟨by omega, by simp at hgl ⊢; omega, by omega, hgoal⟩, Zd7 rfl rfl rfl rfl⟩
    | cons g got =>
      simp only [slN, List.cons_append] at hap
      simp only [Nat.reduceAdd, Zaj, Zbz, Zc3, Za7, Zal, Zar, Za3, Zc8, Ze8, Zae, Zao, Zbb, Zbe, Zbf, Za9, Zbq, List.getElem?_toArray, List.getElem?_cons_succ, List.getElem?_cons_zero, ne_eq, reduceCtorEq, not_false_eq_true, implies_true, Bool.false_eq_true, Option.map_some, List.set_cons_succ, List.set_cons_zero, List.getD_cons_succ, List.getD_cons_zero, Zau, List.any_cons, List.any_nil, Bool.or_false, ↓reduceIte, Za0, Za6, Zby, Zc7, Za4, Zaf, Zaq, Zac, Zai, Zaw, Zap, Ze7, Zd9, Zan, Zdf, Zel, Zc2, Zcv, Ze0, Zbv, Zdi, mkT, Zcm, List.map_cons, List.map_nil, Bool.or_self, Bool.or_true, Nat.zero_add, Try.underlying22, Za1 (hcv _), e2, h84, e0, List.zip_cons_cons, List.zip_nil_right, bs22_1, slN, hap, wi, Zdd, Zgp, Zhr, Zfr, left_e, Zcp, taken, Zbj, Zdo, beq_self_eq_true, Nat.reduceBEq, Zdb, Zcg, Zgo, Zf7, Zev, Zd1, Zc1, Zi8, shr_fu, shr_nf, Zf2]
      refine IH_o (M - (i + 1)) _ (by omega) ⟨i + 1, (g :: got) ++ [v], rest, ⟨by omega, by simp at hgl ⊢; omega, by omega, hgoal⟩, Zd7 rfl rfl rfl rfl⟩

end Go.Abs

namespace Go.Abs
open Go Go.Proofs
set_option maxRecDepth 10000
set_option maxHeartbeats 4000000

theorem Zfz {H : List O} {p : Nat} {cs : List D} (hp : p < H.length) : Zbp (H.set p (.cells cs)) p = some cs := by simp [Zbp, hp]
theorem Zf3 {H : List O} {p : Nat} {cs : List D} (h : Zbp H p = some cs) : p < H.length ∧ H[p]? = some (.cells cs) := by
  unfold Zbp at h
  split at h
  · rename_i cs' hh; cases h; exact ⟨(List.getElem?_eq_some_iff.1 hh).1, hh⟩
  · cases h
theorem app_slD {c ys : List UInt8} {a : D} (hs : slOf a = some (byE ys)) (hy : ys ≠ []) (hl : c.length + ys.length ≤ 1000000) : Zfi Try.prog 31 (slD c) a false = some (slD (c ++ ys)) := by
  cases c with
  | nil =>
    obtain ⟨y, ys', rfl⟩ := List.exists_cons_of_ne_nil hy
    exact app31n hs (ok_byE _) (by rw [byE_len]; simp at hl ⊢; omega)
  | cons x c =>
    simp only [slD, List.cons_append]
    rw [app31b rfl hs (ok_byE _) (by simp only [byE_len]; omega), byE_app]; rfl
theorem slD_nil : slD [] = .osl false true 0 [] := rfl
theorem slD_cons {b : UInt8} {l : List UInt8} : slD (b :: l) = .osl true false 1 (byE (b :: l)) := rfl
theorem putL_ne (n : Nat) : putL n ≠ [] := by simp [putL]
theorem len22 {ex fu : Bool} {sz : Nat} {es : List (List E)} {h : List O} : len0 Try.prog 22 (.osl ex fu sz es) h = some es.length := len0_of Try.underlying22 Zg0
theorem isE_len {xs : List Int} : (isE xs).length = xs.length := by simp [isE]

theorem w26 (H : List O) (p : Nat) (cur : List UInt8) (xs : List Int) (hp : Zbp H p = some [slD cur]) (hok : ∀ x ∈ xs, okN x = true) (hx : xs.length ≤ 1000) (hc : cur.length ≤ 100000) :
    wc 26 [.ptr p 0, .osl true true 1 (isE xs)] H = some (.val Zav, H.set p (.cells [slD (cur ++ Zdm xs)])) := by
  obtain ⟨hlt, hpe⟩ := Zf3 hp
  have hcv : ∀ i, wcv 26 i = [] := fun _ => rfl
  have hres : Try.f26.results.toList = [] := rfl
  rw [wc, Zbt rfl Try.func26 rfl]
  simp only [Zbi, List.length_cons, List.length_nil, Nat.reduceAdd, Nat.reduceSub, List.replicate, List.cons_append, List.nil_append, Zaj, Zc3, Za3, Zae, Zao, Zbb, Za9, List.getElem?_toArray, List.getElem?_cons_zero, Option.bind_some, ne_eq, reduceCtorEq, not_false_eq_true, implies_true, Bool.false_eq_true, Option.map_some, List.set_cons_succ, List.set_cons_zero, List.getD_cons_succ, List.getD_cons_zero, List.any_cons, List.any_nil, ↓reduceIte, Zb7, Zac, Zan, Zd0, Option.bind_eq_bind, Bool.or_self, Nat.zero_add, Option.pure_def, Za1 (hcv _), Try.ntmps26, len22, isE_len, Zcp, taken, Zbj, Zgo, Zf7, Zev, shr_fu, Zf2]
  refine Zfd (fun (n : Nat) (s : St) => ∃ (i : Nat) (H2 : List O), (i + n = xs.length ∧ H2 = H.set p (.cells [slD (cur ++ Zdm (xs.take i))])) ∧ ∃ zs_, s = ⟨mkT [some (.ptr p 0), none, none, none, none, none, none, none, some (.osl false true 1 (isE xs)), some (.int .i64 xs.length), some (.int .i64 i), none, none, none, none, none, none, none, none, none, none, none, none, none, none, none, none, none, none] zs_ 0, [], .no, H2⟩) ?_ (xs.length) ⟨0, H, ⟨by omega, by rw [set_self']; simpa [Zdm] using hpe⟩, Zd7 rfl rfl rfl rfl⟩
  rintro n _ ⟨i, H2, hf_o, zs_o, rfl⟩ IH_o
  obtain ⟨hn, rfl⟩ := hf_o
  by_cases hi : i < xs.length
  rotate_left
  · have e2 : decide ((i : Int) < xs.length) = false := by simp; omega
    have hz : xs.take i = xs := List.take_of_length_le (by omega)
    rw [hz]
    simp only [Nat.reduceAdd, Zaj, Zfe, Za7, Zar, Za3, Zeg, Zeh, Zdu, Zae, Zao, Za9, ne_eq, reduceCtorEq, not_false_eq_true, implies_true, Option.map_some, List.set_cons_succ, List.set_cons_zero, List.getD_cons_succ, List.getD_cons_zero, ↓reduceIte, Za6, Zac, Zc2, Zbv, Zer, Zab, Zaa, Zcr, mkT, Nat.zero_add, Za1 (hcv _), hres, e2, Zf0, List.length_set]
  have e2 : decide ((i : Int) < xs.length) = true := by simp; omega
  have hxi : xs[i]? = some xs[i] := List.getElem?_eq_getElem hi
  have hok1 := hok xs[i] (List.getElem_mem hi)
  generalize xs[i] = x at hxi hok1
  have ia := rd_ix (a := .osl false true 1 (isE xs)) Rd.osl hxi
  obtain ⟨m, rfl⟩ : ∃ m : Nat, x = m := ⟨x.toNat, by simp [okN] at hok1; omega⟩
  have hm : m ≤ 1099511627776 := by simp [okN] at hok1; omega
  have h47 := w47 m hm
  have hnl := numsL_len (xs := xs.take i) (fun x hx => hok x (List.mem_of_mem_take hx))
  have hpl := putL_len m hm
  have hap := app_slD (c := cur ++ Zdm (xs.take i)) (ys := putL m) (a := .e (.sl (byE (putL m)))) slOf_e (putL_ne m) (by simp at hnl ⊢; omega)
  have hsn : cur ++ Zdm (xs.take i) ++ putL m = cur ++ Zdm (xs.take (i + 1)) := by rw [numsL_snoc hxi]; simp
  rw [hsn] at hap
  generalize hcu : cur ++ Zdm (xs.take i) = c at hap
  obtain ⟨z, zs, hz⟩ : ∃ z zs, cur ++ Zdm (xs.take (i + 1)) = z :: zs := List.exists_cons_of_ne_nil (by rw [← hsn]; intro e; exact putL_ne m (List.append_eq_nil_iff.1 e).2)
  rw [hz] at hap
  cases c with
  | nil =>
    simp only [slD_nil, slD_cons] at hap
    simp only [List.length_cons, List.length_nil, Nat.reduceAdd, List.nil_append, Zaj, Zbz, Zc3, Za7, Zal, Za3, Zc8, Ze8, Zae, Zao, Zbb, Zbe, Zbf, Za9, Zce, Zbq, List.getElem?_toArray, List.getElem?_cons_succ, List.getElem?_cons_zero, Option.bind_some, ne_eq, reduceCtorEq, not_false_eq_true, implies_true, Bool.false_eq_true, Option.map_some, List.set_cons_succ, List.set_cons_zero, List.getD_cons_succ, List.getD_cons_zero, Zau, Zdj, Zbk, List.any_cons, List.any_nil, Zds, Bool.or_false, ↓reduceIte, Za0, Za6, Zbc, Zbd, Za5, Zbl, Zc7, Za4, Zaf, Zac, Zai, Zaw, Zap, Zan, Zdf, Zc2, Zcv, Zbv, Zdi, and_self, mkT, List.append_nil, Zad, Zdh, Zb6, Zb5, Zb4, Zd3, Zcm, Zbs, Zim, Zcq, List.take_zero, List.drop_succ_cons, List.drop_zero, Za8, Zag, Bool.or_self, Bool.or_true, Nat.add_zero, Nat.zero_add, Nat.succ_ne_zero, Nat.le_refl, Try.underlying31, sz3, sz31, ag3, ag31, Za1 (hcv _), e2, ia, h47, st49, Zfz hlt, slD_nil, hap, List.set_set, inc64 hi (show xs.length ≤ 1099511627776 by omega), Zdd, Zgp, back, Zcp, taken, Zbj, Zdo, beq_self_eq_true, Nat.reduceBEq, Zdb, Zcg, Zd1, Zc1]
    refine IH_o (xs.length - (i + 1)) _ (by omega) ⟨i + 1, H.set p (.cells [slD (z :: zs)]), ⟨by omega, by rw [hz]⟩, Zd7 rfl rfl rfl rfl⟩
  | cons y c =>
    simp only [slD_cons] at hap
    simp only [List.length_cons, List.length_nil, Nat.reduceAdd, List.nil_append, Zaj, Zbz, Zc3, Za7, Zal, Za3, Zc8, Ze8, Zae, Zao, Zbb, Zbe, Zbf, Za9, Zce, Zbq, List.getElem?_toArray, List.getElem?_cons_succ, List.getElem?_cons_zero, Option.bind_some, ne_eq, reduceCtorEq, not_false_eq_true, implies_true, Bool.false_eq_true, Option.map_some, List.set_cons_succ, List.set_cons_zero, List.getD_cons_succ, List.getD_cons_zero, Zau, Zdj, Zbk, List.any_cons, List.any_nil, Bool.or_false, ↓reduceIte, Za0, Za6, Zbc, Zbd, Za5, Zbl, Zc7, Za4, Zaf, Zac, Zai, Zaw, Zap, Zan, Zdf, Zc2, Zcv, Zbv, Zdi, and_self, mkT, List.append_nil, Zad, Zdh, Zb6, Zb5, Zb4, Zd3, Zcm, Zbs, Zim, Zcq, List.take_zero, List.drop_succ_cons, List.drop_zero, Za8, Zag, Bool.or_self, Bool.or_true, Nat.add_zero, Nat.zero_add, Nat.succ_ne_zero, Nat.le_refl, Try.underlying31, sz3, sz31, ag3, ag31, Za1 (hcv _), e2, ia, h47, st49, Zfz hlt, slD_cons, hap, List.set_set, inc64 hi (show xs.length ≤ 1099511627776 by omega), Zdd, Zgp, back, Zcp, taken, Zbj, Zdo, beq_self_eq_true, Nat.reduceBEq, Zdb, Zcg, Zd1, Zfn, Zc1, Zh1]
    refine IH_o (xs.length - (i + 1)) _ (by omega) ⟨i + 1, H.set p (.cells [slD (z :: zs)]), ⟨by omega, by rw [hz]⟩, Zd7 rfl rfl rfl rfl⟩

end Go.Abs

namespace Go.Abs
open Go Go.Proofs
set_option maxRecDepth 10000
set_option maxHeartbeats 4000000

theorem textL_len {s : ByteArray} : (textL s).length = s.size + 1 := by simp [textL, sL_len]
theorem w53 (H : List O) (p : Nat) (cur : List UInt8) (s : ByteArray) (hp : Zbp H p = some [slD cur]) (hs : s.size < 256) (hc : cur.length ≤ 100000) :
    wc 53 [.ptr p 0, .str s] H = some (.val Zav, H.set p (.cells [slD (cur ++ textL s)])) := by
  obtain ⟨hlt, hpe⟩ := Zf3 hp
  have h82 := w82 s hs
  have hap := app_slD (c := cur) (ys := textL s) (a := .e (.sl (byE (textL s)))) slOf_e (by simp [textL]) (by rw [textL_len]; omega)
  obtain ⟨z, zs, hz⟩ : ∃ z zs, cur ++ textL s = z :: zs := List.exists_cons_of_ne_nil (by simp [textL])
  rw [hz] at hap
  rw [hz, slD_cons]
  have hcv : ∀ i, wcv 53 i = [] := fun _ => rfl
  have hres : Try.f53.results.toList = [] := rfl
  rw [wc, Zbt rfl Try.func53 rfl]
  cases cur with
  | nil =>
    simp only [slD_nil, slD_cons] at hap hp
    simp only [Zbi, List.length_cons, List.length_nil, Nat.reduceAdd, Nat.reduceSub, List.replicate, List.cons_append, List.nil_append, Zaj, Za3, Zae, Zao, Zbb, Zbe, Zbf, Za9, Zce, Zbq, List.getElem?_toArray, List.getElem?_cons_succ, List.getElem?_cons_zero, Option.bind_some, ne_eq, reduceCtorEq, not_false_eq_true, implies_true, Bool.false_eq_true, Option.map_some, List.set_cons_succ, List.set_cons_zero, List.getD_cons_succ, List.getD_cons_zero, Zau, Zdj, Zbk, List.any_cons, List.any_nil, Zds, Bool.or_false, ↓reduceIte, Za0, Zbc, Zbd, Za5, Zc7, Za4, Zaf, Zac, Zaw, Zap, Zdi, Zer, Zab, Zaa, Zcr, and_self, List.append_nil, Zad, Zb6, Zb5, Zb4, Zd3, Zcm, Zbs, Zcq, List.take_zero, List.drop_succ_cons, List.drop_zero, List.map_cons, List.map_nil, Za8, Zag, Bool.or_self, Bool.or_true, Nat.add_zero, Nat.zero_add, Nat.succ_ne_zero, Nat.le_refl, Try.underlying31, sz31, ag31, Za1 (hcv _), Try.ntmps53, hres, h82, st49, hp, hap, Zf0, List.length_set, Zdd, Zgp, Zhr, Zfr, left_e, back, Zcp, taken, Zbj, Zdo, beq_self_eq_true, Nat.reduceBEq, Zdb, Zcg, Zgo, Zf7, Zd1, Zc1, Zi8, shr_nf, Zf2]
  | cons y c =>
    simp only [slD_cons] at hap hp
    simp only [Zbi, List.length_cons, List.length_nil, Nat.reduceAdd, Nat.reduceSub, List.replicate, List.cons_append, List.nil_append, Zaj, Za3, Zae, Zao, Zbb, Zbe, Zbf, Za9, Zce, Zbq, List.getElem?_toArray, List.getElem?_cons_succ, List.getElem?_cons_zero, Option.bind_some, ne_eq, reduceCtorEq, not_false_eq_true, implies_true, Bool.false_eq_true, Option.map_some, List.set_cons_succ, List.set_cons_zero, List.getD_cons_succ, List.getD_cons_zero, Zau, Zbk, List.any_cons, List.any_nil, Bool.or_false, ↓reduceIte, Za0, Zbc, Zbd, Za5, Zc7, Za4, Zaf, Zac, Zaw, Zap, Zdi, Zer, Zab, Zaa, Zcr, and_self, List.append_nil, Zad, Zb6, Zb5, Zb4, Zd3, Zcm, Zbs, Zcq, List.take_zero, List.drop_succ_cons, List.drop_zero, List.map_cons, List.map_nil, Za8, Zag, Bool.or_self, Bool.or_true, Nat.add_zero, Nat.zero_add, Nat.succ_ne_zero, Nat.le_refl, Try.underlying31, sz31, ag31, Za1 (hcv _), Try.ntmps53, hres, h82, st49, hp, Zfz hlt, hap, List.set_set, Zf0, List.length_set, Zdd, Zgp, Zhr, Zfr, left_e, back, Zcp, taken, Zbj, Zdo, beq_self_eq_true, Nat.reduceBEq, Zdb, Zcg, Zgo, Zf7, Zd1, Zfn, Zc1, Zi8, Zh1, shr_nf, Zf2]

theorem w55 (H : List O) (p : Nat) (cur : List UInt8) (a : D) (xs : List Int) (hp : Zbp H p = some [slD cur]) (ha : Rd a (isE xs)) (hx : xs.length < 256) (hok : xs.all okN = true) (hc : cur.length ≤ 100000) :
    wc 55 [.ptr p 0, a] H = some (.val Zav, H.set p (.cells [slD (cur ++ listB xs)])) := by
  obtain ⟨hlt, hpe⟩ := Zf3 hp
  have h83 := w83 a xs ha hx
  rw [hok] at h83
  simp only [if_true] at h83
  have hnl := numsL_len (xs := xs) (by simpa using hok)
  have hap := app_slD (c := cur) (ys := listB xs) (a := .e (.sl (byE (listB xs)))) slOf_e (by simp [listB]) (by simp [listB]; omega)
  obtain ⟨z, zs, hz⟩ : ∃ z zs, cur ++ listB xs = z :: zs := List.exists_cons_of_ne_nil (by simp [listB])
  rw [hz] at hap
  rw [hz, slD_cons]
  have hcv : ∀ i, wcv 55 i = [] := fun _ => rfl
  have hres : Try.f55.results.toList = [] := rfl
  rw [wc, Zbt rfl Try.func55 rfl]
  cases cur with
  | nil =>
    simp only [slD_nil, slD_cons] at hap hp
    simp only [Zbi, List.length_cons, List.length_nil, Nat.reduceAdd, Nat.reduceSub, List.replicate, List.cons_append, List.nil_append, Zaj, Za3, Zae, Zao, Zbb, Zbe, Zbf, Za9, Zce, Zbq, List.getElem?_toArray, List.getElem?_cons_succ, List.getElem?_cons_zero, Option.bind_some, ne_eq, reduceCtorEq, not_false_eq_true, implies_true, Bool.false_eq_true, Option.map_some, List.set_cons_succ, List.set_cons_zero, List.getD_cons_succ, List.getD_cons_zero, Zau, Zdj, Zbk, List.any_cons, List.any_nil, Zds, Bool.or_false, ↓reduceIte, Za0, Zbc, Zbd, Za5, Zc7, Za4, Zaf, Zac, Zaw, Zap, Zdi, Zer, Zab, Zaa, Zcr, and_self, List.append_nil, Zad, Zb6, Zb5, Zb4, Zd3, Zcm, Zbs, Zcq, List.take_zero, List.drop_succ_cons, List.drop_zero, List.map_cons, List.map_nil, Za8, Zag, Bool.or_self, Bool.or_true, Nat.add_zero, Nat.zero_add, Nat.succ_ne_zero, Nat.le_refl, Try.underlying31, sz31, ag31, Za1 (hcv _), Try.ntmps55, hres, ha.ownD, h83, st49, hp, hap, Zf0, List.length_set, Zdd, Zgp, Zhr, Zfr, left_e, back, Zcp, taken, Zbj, Zdo, beq_self_eq_true, Nat.reduceBEq, Zdb, Zcg, Zgo, Zf7, Zd1, Zc1, Zi8, shr_nf, Zf2]
  | cons y c =>
    simp only [slD_cons] at hap hp
    simp only [Zbi, List.length_cons, List.length_nil, Nat.reduceAdd, Nat.reduceSub, List.replicate, List.cons_append, List.nil_append, Zaj, Za3, Zae, Zao, Zbb, Zbe, Zbf, Za9, Zce, Zbq, List.getElem?_toArray, List.getElem?_cons_succ, List.getElem?_cons_zero, Option.bind_some, ne_eq, reduceCtorEq, not_false_eq_true, implies_true, Bool.false_eq_true, Option.map_some, List.set_cons_succ, List.set_cons_zero, List.getD_cons_succ, List.getD_cons_zero, Zau, Zbk, List.any_cons, List.any_nil, Bool.or_false, ↓reduceIte, Za0, Zbc, Zbd, Za5, Zc7, Za4, Zaf, Zac, Zaw, Zap, Zdi, Zer, Zab, Zaa, Zcr, and_self, List.append_nil, Zad, Zb6, Zb5, Zb4, Zd3, Zcm, Zbs, Zcq, List.take_zero, List.drop_succ_cons, List.drop_zero, List.map_cons, List.map_nil, Za8, Zag, Bool.or_self, Bool.or_true, Nat.add_zero, Nat.zero_add, Nat.succ_ne_zero, Nat.le_refl, Try.underlying31, sz31, ag31, Za1 (hcv _), Try.ntmps55, hres, ha.ownD, h83, st49, hp, Zfz hlt, hap, List.set_set, Zf0, List.length_set, Zdd, Zgp, Zhr, Zfr, left_e, back, Zcp, taken, Zbj, Zdo, beq_self_eq_true, Nat.reduceBEq, Zdb, Zcg, Zgo, Zf7, Zd1, Zfn, Zc1, Zi8, Zh1, shr_nf, Zf2]

/-- A truth's number. -/
def bitZ (b : Bool) : Int := if b then 1 else 0
theorem isE1 {n : Int} : [[E.int .i64 n]] = isE [n] := rfl
theorem isE2 {n m : Int} : [[E.int .i64 n], [E.int .i64 m]] = isE [n, m] := rfl
theorem bs22_2 {a b : Int} : Ze9 Try.prog 22 2 [(0, .e (.int .i64 a)), (1, .e (.int .i64 b))] = some (.osl true true 1 [[.int .i64 a], [.int .i64 b]]) := by
  simp [Ze9, el22, sz3, Zed, zo3, replD, fillD, cellsOf, notTup, Zeq, chunk, rowsE, toEs, toE]
theorem bs22_4 {a b c d : Int} : Ze9 Try.prog 22 4 [(0, .e (.int .i64 a)), (1, .e (.int .i64 b)), (2, .e (.int .i64 c)), (3, .e (.int .i64 d))] = some (.osl true true 1 [[.int .i64 a], [.int .i64 b], [.int .i64 c], [.int .i64 d]]) := by
  simp [Ze9, el22, sz3, Zed, zo3, replD, fillD, cellsOf, notTup, Zeq, chunk, rowsE, toEs, toE]
theorem w49 (H : List O) (p : Nat) (cur : List UInt8) (b : Bool) (hp : Zbp H p = some [slD cur]) (hc : cur.length ≤ 100000) :
    wc 49 [.ptr p 0, .bool b] H = some (.val Zav, H.set p (.cells [slD (cur ++ Zdm [bitZ b])])) := by
  have hcv : ∀ i, wcv 49 i = [] := fun _ => rfl
  have hres : Try.f49.results.toList = [] := rfl
  rw [wc, Zbt rfl Try.func49 rfl]
  cases b
  · have h26 := w26 H p cur [0] hp (by simp [okN]) (by simp) hc
    simp only [Zbi, List.length_cons, List.length_nil, Nat.reduceAdd, Nat.reduceSub, List.replicate, List.cons_append, List.nil_append, Zaj, Za7, Zar, Za3, Zae, Zao, Zbe, Zbf, Za9, Zbq, ne_eq, reduceCtorEq, not_false_eq_true, implies_true, Bool.false_eq_true, Option.map_some, List.set_cons_succ, List.set_cons_zero, List.getD_cons_succ, List.getD_cons_zero, Zau, Zbk, List.any_cons, List.any_nil, ↓reduceIte, Zby, Za4, Zaf, Zb7, Zaw, Zap, Ze7, Zd9, Zan, Zer, Zab, Zaa, Zcr, Option.some.injEq, Prod.mk.injEq, true_and, List.map_cons, List.map_nil, Bool.or_self, Nat.zero_add, Za1 (hcv _), Try.ntmps49, hres, List.zip_cons_cons, List.zip_nil_right, bs22_1, isE1, Zcp, taken, Zbj, Zdb, Zcg, Zev, Zc1, h26, Zf0, List.length_set]
    rfl
  · have h26 := w26 H p cur [1] hp (by simp [okN]) (by simp) hc
    simp only [Zbi, List.length_cons, List.length_nil, Nat.reduceAdd, Nat.reduceSub, List.replicate, List.cons_append, List.nil_append, Zaj, Za7, Zal, Za3, Zae, Zao, Zbe, Zbf, Za9, Zbq, ne_eq, reduceCtorEq, not_false_eq_true, implies_true, Bool.false_eq_true, Option.map_some, List.set_cons_succ, List.set_cons_zero, List.getD_cons_succ, List.getD_cons_zero, Zau, Zbk, List.any_cons, List.any_nil, ↓reduceIte, Zby, Za4, Zaf, Zb7, Zaw, Zap, Ze7, Zd9, Zan, Zer, Zab, Zaa, Zcr, Option.some.injEq, Prod.mk.injEq, true_and, List.map_cons, List.map_nil, Bool.or_self, Nat.zero_add, Za1 (hcv _), Try.ntmps49, hres, List.zip_cons_cons, List.zip_nil_right, bs22_1, isE1, Zcp, taken, Zbj, Zdb, Zcg, Zev, Zc1, h26, Zf0, List.length_set]
    rfl

end Go.Abs

namespace Go.Abs
open Go Go.Proofs
set_option maxRecDepth 10000
set_option maxHeartbeats 4000000

theorem Zhu {H ex : List O} {p : Nat} (hp : p < H.length) : Zbp (H ++ ex) p = Zbp H p := by simp [Zbp, List.getElem?_append_left hp]
theorem gc_app0' {H l : List O} {a : O} {n : Nat} (hl : H.length = n) : Zbp (H ++ a :: l) n = Zbp (a :: l) 0 := by subst hl; exact Zas
theorem set_app {H ex : List O} {p : Nat} {o : O} (hp : p < H.length) : (H ++ ex).set p o = H.set p o ++ ex := List.set_append_left _ _ hp
theorem slD_fitO {n : Nat} {l : List UInt8} : FitO n (.cells [slD l]) := .cells _ (by simp [slD_fit])
def pairL (k : ByteArray) (v n : Int) (g : Bool) : List UInt8 := textL k ++ Zdm [v, n] ++ Zdm [bitZ g]

theorem w51 (H : List O) (p : Nat) (cur : List UInt8) (k : ByteArray) (v n : Int) (g : Bool) (hp : Zbp H p = some [slD cur]) (hk : k.size < 256) (hv : okN v = true) (hn : okN n = true) (hc : cur.length ≤ 50000) :
    wc 51 [.ptr p 0, .agg (Zh8 k v n g)] H = some (.val Zav, H.set p (.cells [slD (cur ++ pairL k v n g)])) := by
  obtain ⟨hlt, hpe⟩ := Zf3 hp
  have l1 : (textL k).length ≤ 256 := by rw [textL_len]; omega
  have l2 : (Zdm [v, n]).length ≤ 14 := numsL_len (xs := [v, n]) (by simp [hv, hn])
  have h53 := w53 (H ++ [.cells (Zh8 k v n g)]) p cur k (by rw [Zhu hlt]; exact hp) hk (by omega)
  rw [set_app hlt] at h53
  have h26 := w26 (H.set p (.cells [slD (cur ++ textL k)]) ++ [.cells (Zh8 k v n g)]) p (cur ++ textL k) [v, n] (by rw [Zhu (by simpa using hlt)]; exact Zfz hlt) (by simp [hv, hn]) (by simp) (by simp; omega)
  rw [set_app (by simpa using hlt), List.set_set] at h26
  have h49 := w49 (H.set p (.cells [slD (cur ++ textL k ++ Zdm [v, n])]) ++ [.cells (Zh8 k v n g)]) p (cur ++ textL k ++ Zdm [v, n]) g (by rw [Zhu (by simpa using hlt)]; exact Zfz hlt) (by simp; omega)
  rw [set_app (by simpa using hlt), List.set_set] at h49
  have hpl : cur ++ textL k ++ Zdm [v, n] ++ Zdm [bitZ g] = cur ++ pairL k v n g := by simp [pairL]
  rw [hpl] at h49
  have hgc : ∀ ex, gc H.length H (H.set p (.cells [slD (cur ++ pairL k v n g)]) ++ ex) Zav = H.set p (.cells [slD (cur ++ pairL k v n g)]) := fun ex => gc_set (.tup [] (by simp)) hpe slD_fitO
  simp only [Zh8] at h53 h26 h49
  have hcv : ∀ i, wcv 51 i = [] := fun _ => rfl
  have hres : Try.f51.results.toList = [] := rfl
  rw [wc, Zbt rfl Try.func51 rfl]
  simp only [Zbi, List.length_cons, List.length_nil, Nat.reduceAdd, Nat.reduceSub, List.replicate, List.cons_append, List.nil_append, Zaj, Za3, Zae, Zao, Zbe, Zbf, Za9, Zbq, List.getElem?_cons_succ, List.getElem?_cons_zero, Option.bind_some, Nat.reduceLeDiff, ne_eq, reduceCtorEq, not_false_eq_true, implies_true, Bool.false_eq_true, Option.map_some, List.set_cons_succ, List.set_cons_zero, List.getD_cons_succ, List.getD_cons_zero, Zau, Zbo, Zbk, List.any_cons, List.any_nil, Zb3, ↓reduceIte, Zd2, Zby, Za5, Za4, Zaf, Zac, Zaw, Zap, Ze7, Zd9, Zer, Zab, Zaa, Zcr, Zbg, Zad, Zb6, Zb5, Zb1, Zb9, Zbs, List.map_cons, List.map_nil, Za8, Zag, Bool.or_self, Nat.add_zero, Nat.zero_add, Nat.succ_ne_zero, Nat.le_refl, sz3, sz4, sz9, ag3, ag4, ag9, st24, Za1 (hcv _), Try.ntmps51, hres, Zh8, h53, gc_app0', List.length_set, List.zip_cons_cons, List.zip_nil_right, bs22_2, isE2, h26, h49, hgc, back, Zcp, taken, Zbj, Zdo, Zdb, Zcg, Zev, Zc1]

end Go.Abs

namespace Go.Abs
open Go Go.Proofs
set_option maxRecDepth 10000
set_option maxHeartbeats 4000000

theorem getCells_ne {H : List O} {p q : Nat} {o : O} (h : p ≠ q) : Zbp (H.set p o) q = Zbp H q := by simp only [Zbp]; rw [List.getElem?_set_ne h]

/-- A number, put. -/
theorem put26 (H : List O) (p : Nat) (cur : List UInt8) (n : Int) (hp : Zbp H p = some [slD cur]) (hn : okN n = true) (hc : cur.length ≤ 2000) : wc 26 [.ptr p 0, .osl true true 1 (isE [n])] H = some (.val Zav, H.set p (.cells [slD (cur ++ Zdm [n])])) :=
  w26 H p cur [n] hp (by simp [hn]) (by simp) (by omega)
theorem nums1_len {n : Int} (hn : okN n = true) : (Zdm [n]).length ≤ 7 := numsL_len (xs := [n]) (by simp [hn])

section
variable (H : List O) (p q : Nat) (cur : List UInt8) (m : Msg) (l : D) (hp : Zbp H p = some [slD cur]) (hq : Zbp H q = some (m.cs l)) (hpq : p ≠ q) (hl : Rd l (isE m.list)) (hc : cur.length ≤ 1000)
  include hp hq hpq hc

theorem w48 (hn : okN m.key = true) : wc 48 [.ptr p 0, .ptr q 0] H = some (.val Zav, H.set p (.cells [slD (cur ++ Zdm [m.key] ++ Zdm [bitZ m.slow])])) := by
  obtain ⟨hlt, _⟩ := Zf3 hp
  have hl1 := nums1_len hn
  have h1 := put26 H p cur m.key hp hn (by omega)
  have h2 := w49 (H.set p (.cells [slD (cur ++ Zdm [m.key])])) p (cur ++ Zdm [m.key]) m.slow (Zfz hlt) (by simp; omega)
  rw [List.set_set] at h2
  have hcv : ∀ i, wcv 48 i = [] := fun _ => rfl
  have hres : Try.f48.results.toList = [] := rfl
  rw [wc, Zbt rfl Try.func48 rfl]
  simp only [Zbi, List.length_cons, List.length_nil, Nat.reduceAdd, Nat.reduceSub, List.replicate, List.cons_append, List.nil_append, Zaj, Za3, Zae, Zao, Zbe, Zbf, Za9, Zbq, List.getElem?_cons_succ, List.getElem?_cons_zero, Option.bind_some, Nat.reduceLeDiff, ne_eq, reduceCtorEq, not_false_eq_true, implies_true, Bool.false_eq_true, Option.map_some, List.set_cons_succ, List.set_cons_zero, List.getD_cons_succ, List.getD_cons_zero, Zau, Zbk, List.any_cons, List.any_nil, Zb3, ↓reduceIte, Zby, Za5, Za4, Zaf, Zac, Zaw, Zap, Ze7, Zd9, Zer, Zab, Zaa, Zcr, Zad, Zb6, Zb5, Zbs, List.map_cons, List.map_nil, Za8, Zag, Bool.or_self, Nat.zero_add, Nat.succ_ne_zero, sz3, sz4, ag3, ag4, st27, Za1 (hcv _), Try.ntmps48, hres, Msg.cs, hq, getCells_ne hpq, List.zip_cons_cons, List.zip_nil_right, bs22_1, isE1, h1, h2, Zf0, List.length_set, back, Zcp, taken, Zbj, Zdo, Zdb, Zcg, Zev, Zc1]
theorem w56 (hn : okN m.place = true) : wc 56 [.ptr p 0, .ptr q 0] H = some (.val Zav, H.set p (.cells [slD (cur ++ Zdm [m.place] ++ Zdm [bitZ m.done])])) := by
  obtain ⟨hlt, _⟩ := Zf3 hp
  have hl1 := nums1_len hn
  have h1 := put26 H p cur m.place hp hn (by omega)
  have h2 := w49 (H.set p (.cells [slD (cur ++ Zdm [m.place])])) p (cur ++ Zdm [m.place]) m.done (Zfz hlt) (by simp; omega)
  rw [List.set_set] at h2
  have hcv : ∀ i, wcv 56 i = [] := fun _ => rfl
  have hres : Try.f56.results.toList = [] := rfl
  rw [wc, Zbt rfl Try.func56 rfl]
  simp only [Zbi, List.length_cons, List.length_nil, Nat.reduceAdd, Nat.reduceSub, List.replicate, List.cons_append, List.nil_append, Zaj, Za3, Zae, Zao, Zbe, Zbf, Za9, Zbq, List.getElem?_cons_succ, List.getElem?_cons_zero, Option.bind_some, Nat.reduceLeDiff, ne_eq, reduceCtorEq, not_false_eq_true, implies_true, Bool.false_eq_true, Option.map_some, List.set_cons_succ, List.set_cons_zero, List.getD_cons_succ, List.getD_cons_zero, Zau, Zbk, List.any_cons, List.any_nil, Zb3, ↓reduceIte, Zby, Za5, Za4, Zaf, Zac, Zaw, Zap, Ze7, Zd9, Zer, Zab, Zaa, Zcr, Zad, Zb6, Zb5, Zbs, List.map_cons, List.map_nil, Za8, Zag, Bool.or_self, Nat.zero_add, Nat.succ_ne_zero, sz3, sz4, ag3, ag4, st27, Za1 (hcv _), Try.ntmps56, hres, Msg.cs, hq, getCells_ne hpq, List.zip_cons_cons, List.zip_nil_right, bs22_1, isE1, h1, h2, Zf0, List.length_set, back, Zcp, taken, Zbj, Zdo, Zdb, Zcg, Zev, Zc1]
  include hl
theorem w50 (hk : m.ikey.size < 256) (hv : okN m.ival = true) (hn : okN m.iver = true) : wc 50 [.ptr p 0, .ptr q 0] H = some (.val Zav, H.set p (.cells [slD (cur ++ pairL m.ikey m.ival m.iver m.gone)])) := by
  have _ := hpq
  have _ := hl
  obtain ⟨hlt, _⟩ := Zf3 hp
  have h1 := w51 H p cur m.ikey m.ival m.iver m.gone hp hk hv hn (by omega)
  simp only [Zh8] at h1
  have hcv : ∀ i, wcv 50 i = [] := fun _ => rfl
  have hres : Try.f50.results.toList = [] := rfl
  rw [wc, Zbt rfl Try.func50 rfl]
  simp only [Zbi, List.length_cons, List.length_nil, Nat.reduceAdd, Nat.reduceSub, List.replicate, List.cons_append, List.nil_append, Zae, Zao, Zbe, Zbf, Za9, Zbq, List.getElem?_cons_succ, List.getElem?_cons_zero, Option.bind_some, Nat.reduceLeDiff, ne_eq, reduceCtorEq, not_false_eq_true, implies_true, Bool.false_eq_true, Option.map_some, List.set_cons_succ, List.set_cons_zero, List.getD_cons_succ, List.getD_cons_zero, Zbo, Zbk, List.any_cons, List.any_nil, Zb3, ↓reduceIte, Za5, Za4, Zaf, Zac, Zaw, Zap, Zer, Zab, Zaa, Zcr, Zad, Zb6, Zb5, Zbs, List.take_succ_cons, List.take_zero, List.drop_succ_cons, List.drop_zero, Za8, Zag, Bool.or_self, Nat.zero_add, Nat.succ_ne_zero, sz24, ag24, st27, Za1 (hcv _), Try.ntmps50, hres, Msg.cs, hq, h1, Zf0, List.length_set, back, Zcp, taken, Zbj, Zdo]
theorem w52 (hk : m.ikey.size < 256) : wc 52 [.ptr p 0, .ptr q 0] H = some (.val Zav, H.set p (.cells [slD (cur ++ textL m.ikey)])) := by
  have _ := hpq
  have _ := hl
  obtain ⟨hlt, _⟩ := Zf3 hp
  have h1 := w53 H p cur m.ikey hp hk (by omega)
  have hcv : ∀ i, wcv 52 i = [] := fun _ => rfl
  have hres : Try.f52.results.toList = [] := rfl
  rw [wc, Zbt rfl Try.func52 rfl]
  simp only [Zbi, List.length_cons, List.length_nil, Nat.reduceAdd, Nat.reduceSub, List.replicate, List.cons_append, List.nil_append, Zae, Zao, Zbe, Zbf, Za9, Zbq, List.getElem?_cons_succ, List.getElem?_cons_zero, Option.bind_some, Nat.reduceLeDiff, ne_eq, reduceCtorEq, not_false_eq_true, implies_true, Bool.false_eq_true, Option.map_some, List.set_cons_succ, List.set_cons_zero, List.getD_cons_succ, List.getD_cons_zero, Zau, Zbk, List.any_cons, List.any_nil, Zb3, ↓reduceIte, Za5, Za4, Zaf, Zac, Zaw, Zap, Zer, Zab, Zaa, Zcr, Zad, Zb6, Zb5, Zbs, Za8, Zag, Bool.or_self, Nat.add_zero, Nat.zero_add, Nat.succ_ne_zero, sz9, sz24, ag9, st24, st27, Za1 (hcv _), Try.ntmps52, hres, Msg.cs, hq, h1, Zf0, List.length_set, back, Zcp, taken, Zbj, Zdo]
theorem w54 (hn : okN (IntKind.i64.wrap (m.pred + 1)) = true) (hx : m.list.length < 256) (hok : m.list.all okN = true) : wc 54 [.ptr p 0, .ptr q 0] H = some (.val Zav, H.set p (.cells [slD (cur ++ Zdm [IntKind.i64.wrap (m.pred + 1)] ++ listB m.list)])) := by
  obtain ⟨hlt, _⟩ := Zf3 hp
  have hl1 := nums1_len hn
  have h1 := put26 H p cur _ hp hn (by omega)
  have h2 := w55 (H.set p (.cells [slD (cur ++ Zdm [IntKind.i64.wrap (m.pred + 1)])])) p (cur ++ Zdm [IntKind.i64.wrap (m.pred + 1)]) l m.list (Zfz hlt) hl hx hok (by simp; omega)
  rw [List.set_set] at h2
  have hcv : ∀ i, wcv 54 i = [] := fun _ => rfl
  have hres : Try.f54.results.toList = [] := rfl
  rw [wc, Zbt rfl Try.func54 rfl]
  simp only [Zbi, List.length_cons, List.length_nil, Nat.reduceAdd, Nat.reduceSub, List.replicate, List.cons_append, List.nil_append, Zaj, Za3, Zae, Zao, Zbe, Zbf, Za9, Zbq, List.getElem?_cons_succ, List.getElem?_cons_zero, Option.bind_some, Nat.reduceLeDiff, ne_eq, reduceCtorEq, not_false_eq_true, implies_true, Bool.false_eq_true, Option.map_some, List.set_cons_succ, List.set_cons_zero, List.getD_cons_succ, List.getD_cons_zero, Zau, Zbk, List.any_cons, List.any_nil, Zb3, ↓reduceIte, Za6, Zby, Za5, Za4, Zaf, Zac, Zai, Zaw, Zap, Ze7, Zd9, Zan, Zdf, Zcv, Zer, Zab, Zaa, Zcr, Zad, Zb6, Zb5, Zbs, List.map_cons, List.map_nil, Za8, Zag, Bool.or_self, Nat.zero_add, Nat.succ_ne_zero, sz3, sz22, ag3, ag22, st27, Za1 (hcv _), Try.ntmps54, hres, Msg.cs, hq, getCells_ne hpq, List.zip_cons_cons, List.zip_nil_right, bs22_1, isE1, h1, h2, Zf0, List.length_set, hl.own, hl.ownD, back, Zcp, taken, Zbj, Zdo, Zdb, Zcg, Zev, Zc1]
theorem w57 (hn : okN m.code = true) : wc 57 [.ptr p 0, .ptr q 0] H = some (.val Zav, H.set p (.cells [slD (cur ++ Zdm [m.code])])) := by
  have _ := hpq
  have _ := hl
  obtain ⟨hlt, _⟩ := Zf3 hp
  have h1 := put26 H p cur _ hp hn (by omega)
  have hcv : ∀ i, wcv 57 i = [] := fun _ => rfl
  have hres : Try.f57.results.toList = [] := rfl
  rw [wc, Zbt rfl Try.func57 rfl]
  simp only [Zbi, List.length_cons, List.length_nil, Nat.reduceAdd, Nat.reduceSub, List.replicate, List.cons_append, List.nil_append, Zae, Zao, Zbe, Zbf, Za9, Zbq, List.getElem?_cons_succ, List.getElem?_cons_zero, Option.bind_some, ne_eq, reduceCtorEq, not_false_eq_true, implies_true, Bool.false_eq_true, Option.map_some, List.set_cons_succ, List.set_cons_zero, List.getD_cons_succ, List.getD_cons_zero, Zau, Zbk, List.any_cons, List.any_nil, Zb3, ↓reduceIte, Zby, Za5, Za4, Zaf, Zac, Zaw, Zap, Ze7, Zd9, Zer, Zab, Zaa, Zcr, Zad, Zb6, Zb5, Zbs, List.map_cons, List.map_nil, Za8, Zag, Bool.or_self, Nat.zero_add, Nat.succ_ne_zero, Nat.le_refl, sz25, ag25, st27, Za1 (hcv _), Try.ntmps57, hres, Msg.cs, hq, List.zip_cons_cons, List.zip_nil_right, bs22_1, isE1, h1, Zf0, List.length_set, back, Zcp, taken, Zbj, Zdo, Zdb, Zcg, Zev, Zc1]
theorem w58 (hn : okN m.code = true) (hk : m.ikey.size < 256) (hv : okN m.ival = true) (hv2 : okN m.iver = true) : wc 58 [.ptr p 0, .ptr q 0] H = some (.val Zav, H.set p (.cells [slD (cur ++ Zdm [m.code] ++ (if m.code == 0 then pairL m.ikey m.ival m.iver m.gone else []))])) := by
  have _ := hl
  obtain ⟨hlt, _⟩ := Zf3 hp
  have hl1 := nums1_len hn
  have h1 := put26 H p cur _ hp hn (by omega)
  have h2 := w51 (H.set p (.cells [slD (cur ++ Zdm [m.code])])) p (cur ++ Zdm [m.code]) m.ikey m.ival m.iver m.gone (Zfz hlt) hk hv hv2 (by simp; omega)
  rw [List.set_set] at h2
  simp only [Zh8] at h2
  have hcv : ∀ i, wcv 58 i = [] := fun _ => rfl
  have hres : Try.f58.results.toList = [] := rfl
  rw [wc, Zbt rfl Try.func58 rfl]
  cases hc0 : m.code == 0
  · simp only [Zbi, List.length_cons, List.length_nil, Nat.reduceAdd, Nat.reduceSub, List.replicate, List.cons_append, List.nil_append, Zaj, Zbz, Za7, Zar, Za3, Zae, Zao, Zbe, Zbf, Za9, Zbq, List.getElem?_cons_succ, List.getElem?_cons_zero, Option.bind_some, ne_eq, reduceCtorEq, not_false_eq_true, implies_true, Bool.false_eq_true, Option.map_some, List.set_cons_succ, List.set_cons_zero, List.getD_cons_succ, List.getD_cons_zero, Zau, Zbk, List.any_cons, List.any_nil, Zb3, ↓reduceIte, Za6, Zby, Za5, Za4, Zaf, Zac, Zai, Zaw, Zap, Ze7, Zd9, Zan, Zb8, Zay, Zer, Zab, Zaa, Zcr, List.append_nil, Zad, Zb6, Zb5, Zbs, List.map_cons, List.map_nil, Za8, Zag, Bool.or_self, Nat.zero_add, Nat.succ_ne_zero, Nat.le_refl, sz25, ag25, st27, Za1 (hcv _), Try.ntmps58, hres, Msg.cs, hq, getCells_ne hpq, List.zip_cons_cons, List.zip_nil_right, bs22_1, isE1, h1, Zf0, List.length_set, hc0, back, Zcp, taken, Zbj, Zdo, Zdb, Zcg, Zev, Zc1]
  · simp only [Zbi, List.length_cons, List.length_nil, Nat.reduceAdd, Nat.reduceSub, List.replicate, List.cons_append, List.nil_append, Zaj, Za7, Zal, Za3, Zae, Zao, Zbe, Zbf, Za9, Zbq, List.getElem?_cons_succ, List.getElem?_cons_zero, Option.bind_some, Nat.reduceLeDiff, ne_eq, reduceCtorEq, not_false_eq_true, implies_true, Bool.false_eq_true, Option.map_some, List.set_cons_succ, List.set_cons_zero, List.getD_cons_succ, List.getD_cons_zero, Zau, Zbo, Zbk, List.any_cons, List.any_nil, Zb3, ↓reduceIte, Za6, Zby, Za5, Za4, Zaf, Zac, Zai, Zaw, Zap, Ze7, Zd9, Zan, Zb8, Zay, Zer, Zab, Zaa, Zcr, Zad, Zb6, Zb5, Zbs, List.take_succ_cons, List.take_zero, List.drop_succ_cons, List.drop_zero, List.map_cons, List.map_nil, Za8, Zag, Bool.or_self, Nat.zero_add, Nat.succ_ne_zero, Nat.le_refl, sz24, sz25, ag24, ag25, st27, Za1 (hcv _), Try.ntmps58, hres, Msg.cs, hq, getCells_ne hpq, List.zip_cons_cons, List.zip_nil_right, bs22_1, isE1, h1, h2, Zf0, List.length_set, hc0, back, Zcp, taken, Zbj, Zdo, Zdb, Zcg, Zev, Zc1]
end

end Go.Abs

namespace Go.Abs
open Go Go.Proofs
set_option maxRecDepth 10000
set_option maxHeartbeats 4000000

section
variable {P : Program} {s : St} {l : List Oper} {dst : Option Tmp} {ty : TypeId} {pos : String} {af : Array Edge} {g : Option (Nat × Bool)}
theorem exO_insert {t : TypeId} {m k x : Operand} : exOp P l ⟨dst, .insert t m k x, ty, pos, af, g⟩ s = match mapT P t, rd s m, rd s k, sh s x with
    | some (kt, _), some (.map i), some (.e k), some (v, s1) =>
      if keyOk P kt k && plainD v then
        match s1.h[i]? with
        | some (.map es) => (setD k v es).map fun es' => (.val Zav, { s1 with h := s1.h.set i (.map es') })
        | _ => none
      else none
    | _, _, _, _ => none := rfl
theorem Zew {t : TypeId} {m k : Operand} {ok : Bool} : exOp P l ⟨dst, .lookup t m k ok, ty, pos, af, g⟩ s = match mapT P t, rd s m, rd s k with
    | some (kt, et), some m, some (.e k) =>
      if keyOk P kt k then
        match mapGet s.h m k with
        | some (some d) => some (.val (if ok then .tup [d, .bool true] else d), s)
        | some none => (Zgs P et).map fun z => (.val (if ok then .tup [z, .bool false] else z), s)
        | none => none
      else none
    | _, _, _ => none := rfl
end
theorem ofV_nilmap : ofV (.map none) = some (.e .nilmap) := rfl
theorem key5 {n : Int} : keyOk Try.prog 5 (.int .u8 n) = true := by simp [keyOk, Try.underlying5]
theorem plain_func {f : Fn} {a b : List D} : plainD (.func f a b) = true := of_decide_eq_true rfl
theorem setD_nil {k : E} {v : D} : setD k v [] = some [(k, v)] := rfl
theorem setD_ne {a b : Int} {v d : D} {es : List (E × D)} (h : (a == b) = false) : setD (.int .u8 a) v ((.int .u8 b, d) :: es) = (setD (.int .u8 a) v es).map ((.int .u8 b, d) :: ·) := by simp [setD, keyEq, h]
theorem Zia {a b : Int} {d : D} {es : List (E × D)} (h : (a == b) = false) : findD (.int .u8 a) ((.int .u8 b, d) :: es) = findD (.int .u8 a) es := by simp [findD, keyEq, h]
theorem Zhd {a b : Int} {d : D} {es : List (E × D)} (h : (a == b) = true) : findD (.int .u8 a) ((.int .u8 b, d) :: es) = some (some d) := by simp [findD, keyEq, h]
theorem find_nil {k : E} : findD k [] = some none := rfl
def Zhk (q : Nat) : List (E × D) := [(.int .u8 4, .func (.func 48) [] [.ptr q 0]), (.int .u8 5, .func (.func 50) [] [.ptr q 0]), (.int .u8 6, .func (.func 52) [] [.ptr q 0]), (.int .u8 7, .func (.func 54) [] [.ptr q 0]), (.int .u8 10, .func (.func 56) [] [.ptr q 0]), (.int .u8 11, .func (.func 57) [] [.ptr q 0]), (.int .u8 12, .func (.func 58) [] [.ptr q 0])]

theorem w27 (m : Msg) (l : D) (hl : Rd l (isE m.list)) (h : List O) : wc 27 [.agg (m.cs l)] h = some (.val (.map (h.length + 1)), h ++ [.cells (m.cs l), .map (Zhk h.length)]) := by
  have hcv : ∀ i, wcv 27 i = [] := fun _ => rfl
  have hres : Try.f27.results.toList = [ResultVar.tmp 2] := rfl
  rw [wc, Zbt rfl Try.func27 rfl]
  simp only [Zbi, List.length_cons, List.length_nil, Nat.reduceSub, List.replicate, List.cons_append, List.nil_append, Zaj, Zaz, Za3, Zae, Zao, Za9, Zce, List.getElem?_cons_succ, List.getElem?_cons_zero, ne_eq, reduceCtorEq, not_false_eq_true, implies_true, Option.map_some, List.set_cons_succ, List.set_cons_zero, List.getD_cons_succ, List.getD_cons_zero, Zbo, Zbk, Zda, Zfu, List.any_cons, List.any_nil, Zb3, ↓reduceIte, Za2, Za0, Zd2, Zec, Zhe, Za4, Zaf, Zaq, Zac, Zai, Ze7, Zd9, Zan, Zb0, Zab, Zaa, Zah, Zat, Option.some.injEq, Prod.mk.injEq, true_and, Ze4, hlen, Zi9, hgetn, Zb1, Zb9, Bool.or_self, Bool.and_true, Nat.zero_add, Za1 (hcv _), Try.ntmps27, hres, Msg.cs, hl.own, exO_insert, mp52, key5, plain_func, setD_nil, setD_ne, Int.reduceBEq, ofV_nilmap]
  rw [gc_not]
  · rfl
  · intro hf; cases hf; omega

end Go.Abs

namespace Go.Abs
open Go Go.Proofs
set_option maxHeartbeats 4000000

theorem same_iff {m o : Msg} : (decide (m.list = o.list) && sameCs m o) = true ↔ m = o := by
  cases m; cases o
  simp only [sameCs, Bool.and_eq_true, decide_eq_true_eq, beq_iff_eq, bab, Msg.mk.injEq]
  constructor
  · rintro ⟨h1, h2, h3, h4, h5, h6, h7, h8, h9, h10, ⟨h11, h12, h13, h14⟩, h15⟩
    exact ⟨h2, h3, h4, h5, h6, h7, h8, h9, h10, h1, h11, h12, h13, h14, h15⟩
  · rintro ⟨h2, h3, h4, h5, h6, h7, h8, h9, h10, h1, h11, h12, h13, h14, h15⟩
    exact ⟨h1, h2, h3, h4, h5, h6, h7, h8, h9, h10, ⟨h11, h12, h13, h14⟩, h15⟩
theorem isPlace_iff {n : Int} : Zej n = true ↔ 0 ≤ n ∧ n < 65536 := by simp [Zej]
theorem asks_eq {k : Int} : asks' k = asks k := by
  simp only [asks', asks]
  congr 1

/-- What a message that may be is. -/
structure Msg.Fits (m : Msg) : Prop where
  k1 : 1 ≤ m.kind
  k2 : m.kind ≤ 12
  frm : Zej m.frm = true
  to : Zej m.to = true
  ne : m.frm ≠ m.to
  c1 : m.asker * 1048576 < m.call
  c2 : m.call ≤ m.asker * 1048576 + 1048576
  fine : m.fine = true
  off : m.off = m.head

theorem asker_lt {m : Msg} (h1 : Zej m.frm = true) (h2 : Zej m.to = true) : 0 ≤ m.asker ∧ m.asker < 65536 := by
  rw [isPlace_iff] at h1 h2
  unfold Msg.asker; split <;> assumption

theorem Ziu {m : Msg} (hlo : -9223372036854775808 ≤ m.call) (hhi : m.call ≤ 9223372036854775807) : m.right = true ↔ m.Fits := by
  have ha : m.asker' = m.asker := by simp only [Msg.asker', Msg.asker, asks_eq]
  simp only [Msg.right, Bool.and_eq_true, Bool.not_eq_true', decide_eq_false_iff_not, beq_eq_false_iff_ne, beq_iff_eq, ha]
  rw [← Bool.and_eq_true, same_iff]
  constructor
  · rintro ⟨h1, h2, h3, h4, h5, h6, h7, h8, h9⟩
    have hp := asker_lt h3 h4
    rw [Zf9 (n := m.call - 1) (by omega) (by omega)] at h7
    rw [Int.tdiv_eq_ediv_of_nonneg (by omega)] at h7
    rw [Zf9 (by omega) (by omega)] at h7
    exact ⟨by omega, by omega, h3, h4, h5, by omega, by omega, h8, h9⟩
  · rintro ⟨h1, h2, h3, h4, h5, h6, h7, h8, h9⟩
    have hp := asker_lt h3 h4
    refine ⟨by omega, by omega, h3, h4, h5, by omega, ?_, h8, h9⟩
    rw [Zf9 (n := m.call - 1) (by omega) (by omega)]
    rw [Int.tdiv_eq_ediv_of_nonneg (by omega)]
    rw [Zf9 (by omega) (by omega)]
    omega


theorem fineKey_iff {k : ByteArray} : fineKey k = true ↔ 1 ≤ k.size ∧ k.size ≤ 20 := by
  simp only [fineKey, Bool.and_eq_true, Bool.not_eq_true', decide_eq_true_eq, bab, decide_eq_false_iff_not]
  have : k = { data := #[] } ↔ k.size = 0 := by
    cases k with | mk d =>
    simp [ByteArray.size]
  rw [this]; omega
theorem finePair_iff {k : ByteArray} {v n : Int} : Zik k v n = true ↔ (1 ≤ k.size ∧ k.size ≤ 20) ∧ (0 ≤ v ∧ v ≤ 1048576) ∧ 0 ≤ n ∧ n ≤ 1048576 := by
  simp only [Zik, isWithin, Bool.and_eq_true, fineKey_iff, decide_eq_true_eq, and_assoc]
theorem finePair'_iff {k : ByteArray} {v n : Int} : Zgj k v n = true ↔ (1 ≤ k.size ∧ k.size ≤ 20) ∧ (0 ≤ v ∧ v ≤ 1048576) ∧ 0 ≤ n ∧ n ≤ 1048576 := by
  simp only [Zgj, Bool.and_eq_true, decide_eq_true_eq]
  omega
theorem finePair_eq {k : ByteArray} {v n : Int} : Zgj k v n = Zik k v n := by
  rw [Bool.eq_iff_iff, finePair_iff, finePair'_iff]

theorem has_off {m : Msg} : (m.bare = m.head ∧ m.has = true) ↔ (m.off = m.head ∧ m.fine = true) := by
  have hk : (m.kind == 6) = true ∨ (m.kind == 6) = false := by cases m.kind == 6 <;> simp
  rcases hk with h6 | h6
  · have h : m.kind = 6 := by simpa using h6
    have h4 : (m.kind == 4) = false := by simp [h]
    have h5 : (m.kind == 5) = false := by simp [h]
    simp only [Msg.bare, Msg.off, Msg.has, Msg.fine, h4, h5, h6, if_true, Bool.false_eq_true, if_false, Msg.noItem, Msg.head, Msg.mk.injEq, Bool.and_eq_true, finePair'_iff, fineKey_iff, beq_iff_eq, bab, decide_eq_true_eq]
    constructor
    · rintro ⟨h1, h2, h3, h7, h8, h9⟩
      refine ⟨?_, h2.1⟩
      simp_all
    · rintro ⟨h1, h2⟩
      simp_all
  · have e1 : m.bare = m.off := by simp only [Msg.bare, Msg.off, h6]; rfl
    have e2 : m.has = m.fine := by simp only [Msg.has, Msg.fine, h6, finePair_eq]; rfl
    rw [e1, e2]
theorem right6_fits {m : Msg} : m.right6 = true ↔ m.Fits := by
  simp only [Msg.right6, Bool.and_eq_true, Bool.not_eq_true', decide_eq_false_iff_not, beq_eq_false_iff_ne]
  rw [← Bool.and_eq_true, same_iff]
  constructor
  · rintro ⟨h1, h2, h3, h4, h5, h6, h7, h8, h9⟩
    have hp := asker_lt h3 h4
    have hf : m.first = m.asker * 1048576 + 1 := by
      unfold Msg.first
      rw [Zf9 (n := m.asker * 1048576) (by omega) (by omega), Zf9 (by omega) (by omega)]
    rw [hf] at h6 h7
    rw [Zf9 (by omega) (by omega)] at h7
    obtain ⟨q1, q2⟩ := has_off.1 ⟨h8, h9⟩
    exact ⟨by omega, by omega, h3, h4, h5, by omega, by omega, q2, q1⟩
  · rintro ⟨h1, h2, h3, h4, h5, h6, h7, h8, h9⟩
    have hp := asker_lt h3 h4
    have hf : m.first = m.asker * 1048576 + 1 := by
      unfold Msg.first
      rw [Zf9 (n := m.asker * 1048576) (by omega) (by omega), Zf9 (by omega) (by omega)]
    obtain ⟨q1, q2⟩ := has_off.2 ⟨h9, h8⟩
    refine ⟨by omega, by omega, h3, h4, h5, by rw [hf]; omega, ?_, q1, q2⟩
    rw [hf, Zf9 (by omega) (by omega)]
    omega

/-- Numbers of a message that may be. -/
theorem fits_okN {m : Msg} (h : m.Fits) : okN m.kind = true ∧ okN m.call = true ∧ okN m.frm = true ∧ okN m.to = true := by
  have hp := asker_lt h.frm h.to
  have h1 := isPlace_iff.1 h.frm
  have h2 := isPlace_iff.1 h.to
  have := h.k1; have := h.k2; have := h.c1; have := h.c2
  simp only [okN, Bool.and_eq_true, decide_eq_true_eq]
  omega

end Go.Abs
