/-
  WIRE: num.TakeList. WIRE: the writer. WIRE: the writer, texts, lists, truths, pairs. WIRE: the writer, pairs, what kinds have. WIRE: what kinds have, put. WIRE: the map of what kinds have, put. WIRE: which messages may be: plain. No condition.
-/
import Derived.Test.YtkimilghfbgjmaaQ21

open List renaming any_cons → Yax, any_nil → Yay, append_nil → Yaf, cons_append → Yaj, drop_succ_cons → Yb7, drop_zero → Yb8, getD_cons_succ → Yak, getD_cons_zero → Yal, getElem?_cons_succ → Yam, getElem?_cons_zero → Yan, getElem?_toArray → Yao, length_cons → Yap, length_nil → Yaq, length_set → Ybr, map_cons → Ybi, map_nil → Yba, nil_append → Yar, replicate → Yae, set_cons_succ → Yas, set_cons_zero → Yat, set_set → Ybs, take_zero → Ybd, zip_cons_cons → Ybo, zip_nil_right → Ybe
open Option renaming bind_some → Yau, map_some → Ya2
open Bool renaming and_eq_true → Ybt, false_eq_true → Yav, or_false → Ybp, or_self → Yb3, or_true → Ybq
open Nat renaming add_zero → Yb4, le_refl → Yab, succ_ne_zero → Yb5, zero_add → Yaw
namespace Go.Abs
open Go Go.Proofs
set_option maxRecDepth 10000
set_option maxHeartbeats 4000000
def Zhq : Nat → List UInt8 → Except Int (List Nat × List UInt8)
  | 0, xs => .ok ([], xs)
  | k + 1, xs => match Zmf xs with
    | .short => .error 11
    | .form => .error 12
    | .ok n rest => match Zhq k rest with
      | .ok (l, r) => .ok (n :: l, r)
      | .error e => .error e
def Zrc : List UInt8 → Except Int (List Nat × List UInt8)
  | [] => .error 11
  | m :: ys => Zhq m.toNat ys
def Zhu (l : List Nat) : List Int := l.map fun (x : Nat) => (x : Int)
def slN (l : List Nat) : D := match l with
  | [] => .osl false true 0 []
  | n :: l => .osl true false 1 (isE (Zhu (n :: l)))
def listD : Except Int (List Nat × List UInt8) → D
  | .error e => .tup [.osl false true 0 [], .osl false true 0 [], .int .i64 e]
  | .ok (l, rest) => .tup [slN l, .osl true false 1 (byE rest), .int .i64 0]
theorem Zqm {xs rest : List UInt8} {n : Nat} (h : Zmf xs = .ok n rest) : rest.length ≤ xs.length := by
  cases xs with
  | nil => simp [Zmf] at h
  | cons m ys =>
    simp only [Zmf] at h
    split at h
    · cases h
    · split at h
      · cases h
      · split at h
        · cases h; simp
        · split at h
          · cases h; simp; omega
          · cases h
theorem Zos {a : Int} : Zef Try.prog 22 1 [(0, .e (.int .i64 a))] = some (.osl true true 1 [[.int .i64 a]]) := by
  simp [Zef, el22, sz3, Zf3, zo3, Zoj, Zkt, cellsOf, notTup, Zfg, Zpd, Zoy, toEs, toE]
theorem app22n {a : Int} : Zfz Try.prog 22 (.osl false true 0 []) (.osl false true 1 [[.int .i64 a]]) false = some (.osl true false 1 [[.int .i64 a]]) := by
  simp [Zfz, el22, sz3, by3, Zf3, zo3, slOf, notTup, cellsOf, Zlm]
theorem app22 {ex fu : Bool} {es : List (List E)} {a : Int} (hne : es ≠ []) (hl : es.length ≤ 1000000) : Zfz Try.prog 22 (.osl ex fu 1 es) (.osl false true 1 [[.int .i64 a]]) false = some (.osl ex false 1 (es ++ [[.int .i64 a]])) := by
  have : es.isEmpty = false := by cases es <;> simp_all
  simp [Zfz, el22, sz3, by3, Zf3, zo3, slOf, notTup, cellsOf, Zlm, this]
  omega
theorem app_slN {l : List Nat} {n : Nat} (hl : l.length ≤ 1000) : Zfz Try.prog 22 (slN l) (.osl false true 1 [[.int .i64 (n : Int)]]) false = some (slN (l ++ [n])) := by
  cases l with
  | nil => exact app22n
  | cons x l =>
    have := app22 (ex := true) (fu := false) (es := isE (Zhu (x :: l))) (a := (n : Int)) (by simp [isE, Zhu]) (by simp [isE, Zhu] at hl ⊢; omega)
    simp only [slN, Yaj]
    rw [this]
    simp [isE, Zhu]
def preL (got : List Nat) : Except Int (List Nat × List UInt8) → Except Int (List Nat × List UInt8)
  | .ok (l, r) => .ok (got ++ l, r)
  | .error e => .error e
theorem preL_nil (r : Except Int (List Nat × List UInt8)) : preL [] r = r := by cases r <;> rfl
theorem preL_snoc {k : Nat} {xs rest : List UInt8} {n : Nat} {got : List Nat} (h : Zmf xs = .ok n rest) : preL got (Zhq (k + 1) xs) = preL (got ++ [n]) (Zhq k rest) := by
  simp only [Zhq, h]
  cases Zhq k rest with
  | error e => rfl
  | ok q => obtain ⟨l, r⟩ := q; simp [preL]
theorem w86 (a : D) (xs : List UInt8) (ha : Rd a (byE xs)) (hx : xs.length ≤ 100000) (h : List O) : wc 86 [a] h = some (.val (listD (Zrc xs)), h) := by
  have la := Zor ha
  have hcv : ∀ i, wcv 86 i = [] := fun _ => rfl
  have hres : Try.f86.results.toList = [ResultVar.tmp 2, ResultVar.tmp 3, ResultVar.tmp 4] := rfl
  rw [wc, Zbm rfl Try.func86 rfl]
  cases xs with
  | nil =>
    have e1 : (((0 : Nat) : Int) == 0) = true := by decide
    simp only [Zbj, Yap, Yaq, Nat.reduceSub, Yae, Yaj, Yar, Zai, Zb2, Za7, Zak, Za3, Zc0, Zae, Zan, Zbd, Za9, Yao, Yan, Yau, ne_eq, reduceCtorEq, not_false_eq_true, implies_true, Ya2, Yas, Yat, Yak, Yal, Zau, Zdv, Za4, Za0, Za6, Za2, Zap, Zab, Zag, Zam, Zcw, Zb6, Zay, Zd0, Zb3, Zad, Zac, Zal, Zeu, Zcq, Zbr, Zcy, Zcx, List.forall_mem_cons, List.not_mem_nil, false_imp_iff, and_true, and_self, Option.some.injEq, Prod.mk.injEq, Option.bind_eq_bind, Yaw, Option.pure_def, Za1 (hcv _), Try.ntmps86, hres, ha.ownD, la, e1]
    rfl
  | cons m ys =>
  have hm := m.toNat_lt
  have la : ∀ H, len0 Try.prog 31 a H = some (ys.length + 1) := fun H => by rw [la]; rfl
  have e1 : (((ys.length + 1 : Nat) : Int) == 0) = false := by simp; omega
  have i0 : Zeh Try.prog 31 a (.e (.int .i64 0)) = some (.rptr [.int .u8 (m.toNat : Int)] 0) := by_ix (i := 0) ha rfl
  have s1 : Zkv Try.prog 31 a (some (.e (.int .i64 1))) none none = some (.e (.sl (byE ys))) := by
    rw [Zl9 (h := (m :: ys).length) (l := 1) ha rfl (by rw [bndO, show (1 : Int) = ((1 : Nat) : Int) by rfl, Zku (by simp)])]
    rw [List.take_length, Yb7, Yb8]
  have hc := Zmc (a := .e (.sl (byE ys))) (xs := ys) Rd.e (by simp at hx ⊢; omega)
  generalize hM : m.toNat = M at *
  simp only [Zrc, hM]
  simp only [Zbj, Yap, Yaq, Nat.reduceSub, Yae, Yaj, Yar, Zai, Zbw, Zc5, Za7, Zao, Za3, Zae, Zan, Zbd, Zbf, Zbg, Za9, Zbq, Yao, Yan, Yau, ne_eq, reduceCtorEq, not_false_eq_true, implies_true, Yav, Ya2, Yas, Yat, Yak, Yal, Zau, Yax, Yay, ↓reduceIte, Za0, Za6, Zgt, Zbo, Za2, Zaf, Zap, Zbh, Zab, Zag, Zaq, Zah, Zam, Zcw, Zgr, Zgq, Zb6, Zay, Zd0, Ze3, Zj0, Option.bind_eq_bind, Zaj, Yb3, Yaw, Option.pure_def, Yab, sz5, ag5, Za1 (hcv _), Try.ntmps86, ha.ownD, la, e1, i0, s1, hc, back, Zci, taken, Zbi, Zdj, Nat.reduceBEq, Zdd, Zcn, Zd6, Zcg]
  refine Zff (fun (n : Nat) (s : St) => ∃ (i : Nat) (got : List Nat) (cur : List UInt8), (i + n = M ∧ got.length = i ∧ cur.length ≤ ys.length ∧ Zhq M ys = preL got (Zhq (M - i) cur)) ∧ ∃ zs_, s = ⟨mkT [some (a), none, some (slN got), some (.osl true false 1 (byE cur)), some (.e (.int .i64 0)), none, none, none, none, none, none, none, none, none, some (.e (.int .u8 M)), some (.int .u8 i), none, none, none, none, none, none, none, none, none, none, none, none, none, none, none, none, none] zs_ 0, [], .no, h⟩) ?_ (M) ⟨0, [], ys, ⟨by omega, rfl, Yab _, (preL_nil _).symm⟩, Zd8 rfl rfl rfl rfl⟩
  rintro n _ ⟨i, got, cur, hf_o, zs_o, rfl⟩ IH_o
  obtain ⟨hn, hgl, hcl, ht⟩ := hf_o
  simp at hx
  by_cases hi : i < M
  rotate_left
  · have e2 : decide ((i : Int) < (M : Int)) = false := by simp; omega
    have hz : M - i = 0 := by omega
    rw [ht, hz]
    cases got with
    | nil =>
      simp only [Nat.reduceAdd, Zai, Zb2, Zfv, Za7, Zao, Za3, Zeq, Zer, Ze2, Zae, Zan, Za9, ne_eq, reduceCtorEq, not_false_eq_true, implies_true, Ya2, Yas, Yat, Yak, Yal, Zau, Zdv, Yax, Yay, Ybp, ↓reduceIte, Za0, Za6, Za2, Zap, Zab, Zam, Zc6, Zbs, Zb3, Zad, Zac, Zal, Zeu, Zcq, Zbr, Zcy, Zcx, List.forall_mem_cons, List.not_mem_nil, false_imp_iff, and_true, and_self, Option.some.injEq, Prod.mk.injEq, mkT, Yb3, Ybq, Yaw, Za1 (hcv _), hres, e2, slN, Zci, taken, Zbi, Zdj, beq_self_eq_true, Nat.reduceBEq, Zdd, Zcn, Zd6, Zcg]
      rfl
    | cons g got =>
      simp only [Nat.reduceAdd, Zai, Zb2, Zfv, Za7, Zao, Za3, Zeq, Zer, Ze2, Zae, Zan, Za9, ne_eq, reduceCtorEq, not_false_eq_true, implies_true, Ya2, Yas, Yat, Yak, Yal, Zau, Yax, Yay, Ybp, ↓reduceIte, Za0, Za6, Za2, Zap, Zab, Zam, Zc6, Zbs, Zb3, Zad, Zac, Zal, Zeu, Zcq, Zbr, Zcy, Zcx, List.forall_mem_cons, List.not_mem_nil, false_imp_iff, and_true, and_self, Option.some.injEq, Prod.mk.injEq, mkT, Yb3, Ybq, Yaw, Za1 (hcv _), hres, e2, slN, Zci, taken, Zbi, Zdj, beq_self_eq_true, Nat.reduceBEq, Zdd, Zcn, Zd6, Zcg]
      simp only [Zhq, preL, Yaf, listD, slN]
  have e2 : decide ((i : Int) < (M : Int)) = true := by simp; omega
  have wi : IntKind.u8.wrap ((i : Int) + 1) = ((i + 1 : Nat) : Int) := by rw [IntKind.wrap_u8]; omega
  have h84 := w84 (.e (.sl (byE cur))) cur Rd.e (by omega)
  obtain ⟨k, hk⟩ : ∃ k, M - i = k + 1 := ⟨M - i - 1, by omega⟩
  rw [ht, hk]
  have e11 : ((11 : Int) != 0) = true := by decide
  have e12 : ((12 : Int) != 0) = true := by decide
  have e0 : ((0 : Int) != 0) = false := by decide
  cases htb : Zmf cur with
  | short =>
    have hr : preL got (Zhq (k + 1) cur) = .error 11 := by simp [Zhq, htb, preL]
    rw [htb] at h84
    simp only [TakeR.d] at h84
    rw [hr]
    simp only [Nat.reduceAdd, Zai, Zbw, Zb2, Zc5, Za7, Zak, Za3, Zc0, Zd3, Zgh, Zae, Zan, Zbf, Zbg, Za9, Zbq, Yam, Yan, ne_eq, reduceCtorEq, not_false_eq_true, implies_true, Yav, Ya2, Yas, Yat, Yak, Yal, Zau, Zdv, Yax, Yay, Ybp, ↓reduceIte, Za0, Za6, Zc8, Za2, Zaf, Zap, Zab, Zag, Zaq, Zah, Zam, Zcw, Zem, Zc6, Zdm, Zbs, Zb3, Zad, Zac, Zal, Zeu, Zcq, Zbr, Zcy, Zcx, List.forall_mem_cons, List.not_mem_nil, false_imp_iff, and_true, and_self, Option.some.injEq, Prod.mk.injEq, mkT, Yb3, Ybq, Yaw, Za1 (hcv _), hres, e2, h84, e11, Zd7, Zg4, Zhm, Zci, taken, Zbi, Zdj, beq_self_eq_true, Nat.reduceBEq, Zgf, Zfb, Zd6, Zi8, Zf6]
    rfl
  | form =>
    have hr : preL got (Zhq (k + 1) cur) = .error 12 := by simp [Zhq, htb, preL]
    rw [htb] at h84
    simp only [TakeR.d] at h84
    rw [hr]
    simp only [Nat.reduceAdd, Zai, Zbw, Zb2, Zc5, Za7, Zak, Za3, Zc0, Zd3, Zgh, Zae, Zan, Zbf, Zbg, Za9, Zbq, Yam, Yan, ne_eq, reduceCtorEq, not_false_eq_true, implies_true, Yav, Ya2, Yas, Yat, Yak, Yal, Zau, Zdv, Yax, Yay, Ybp, ↓reduceIte, Za0, Za6, Zc8, Za2, Zaf, Zap, Zab, Zag, Zaq, Zah, Zam, Zcw, Zem, Zc6, Zdm, Zbs, Zb3, Zad, Zac, Zal, Zeu, Zcq, Zbr, Zcy, Zcx, List.forall_mem_cons, List.not_mem_nil, false_imp_iff, and_true, and_self, Option.some.injEq, Prod.mk.injEq, mkT, Yb3, Ybq, Yaw, Za1 (hcv _), hres, e2, h84, e12, Zd7, Zg4, Zhm, Zci, taken, Zbi, Zdj, beq_self_eq_true, Nat.reduceBEq, Zgf, Zfb, Zd6, Zi8, Zf6]
    rfl
  | ok v rest =>
    have hr := preL_snoc (got := got) (k := k) htb
    have hrl := Zqm htb
    rw [htb] at h84
    simp only [TakeR.d] at h84
    rw [hr]
    have hap := app_slN (l := got) (n := v) (by omega)
    have hgoal : Zhq M ys = preL (got ++ [v]) (Zhq (M - (i + 1)) rest) := by rw [ht, hk, hr]; congr 2; omega
    rw [← hr, ← hk, ← ht]
    cases got with
    | nil =>
      simp only [slN, Yar] at hap
      simp only [Nat.reduceAdd, Zai, Zbw, Zc5, Za7, Zak, Zao, Za3, Zcd, Zdx, Zae, Zan, Zbd, Zbf, Zbg, Za9, Zbq, Yao, Yam, Yan, ne_eq, reduceCtorEq, not_false_eq_true, implies_true, Yav, Ya2, Yas, Yat, Yak, Yal, Zau, Zdv, Yax, Yay, Ybp, ↓reduceIte, Za0, Za6, Zca, Zc8, Za2, Zaf, Zap, Zab, Zag, Zaq, Zah, Zec, Zdg, Zam, Zdc, Zem, Zc6, Zcz, Zdm, Zbs, Ze4, mkT, Zct, Ybi, Yba, Yb3, Ybq, Yaw, Try.underlying22, Za1 (hcv _), e2, h84, e0, Ybo, Ybe, Zos, slN, hap, wi, Zd7, Zg4, Zhh, Zfp, Ziw, Zci, taken, Zbi, Zdj, beq_self_eq_true, Nat.reduceBEq, Zdd, Zcn, Zgf, Zfb, Zfj, Zd6, Zcg, Zi2, Zkk, Zi8, Zf6]
      refine IH_o (M - (i + 1)) _ (by omega) ⟨i + 1, [v], rest, ⟨by omega, by simp at hgl ⊢; omega, by omega, hgoal⟩, Zd8 rfl rfl rfl rfl⟩
    | cons g got =>
      simp only [slN, Yaj] at hap
      simp only [Nat.reduceAdd, Zai, Zbw, Zc5, Za7, Zak, Zao, Za3, Zcd, Zdx, Zae, Zan, Zbd, Zbf, Zbg, Za9, Zbq, Yao, Yam, Yan, ne_eq, reduceCtorEq, not_false_eq_true, implies_true, Yav, Ya2, Yas, Yat, Yak, Yal, Zau, Yax, Yay, Ybp, ↓reduceIte, Za0, Za6, Zca, Zc8, Za2, Zaf, Zap, Zab, Zag, Zaq, Zah, Zec, Zdg, Zam, Zdc, Zem, Zc6, Zcz, Zdm, Zbs, Ze4, mkT, Zct, Ybi, Yba, Yb3, Ybq, Yaw, Try.underlying22, Za1 (hcv _), e2, h84, e0, Ybo, Ybe, Zos, slN, hap, wi, Zd7, Zg4, Zhh, Zfp, Ziw, Zci, taken, Zbi, Zdj, beq_self_eq_true, Nat.reduceBEq, Zdd, Zcn, Zgf, Zfb, Zfj, Zd6, Zcg, Zi2, Zkk, Zi8, Zf6]
      refine IH_o (M - (i + 1)) _ (by omega) ⟨i + 1, (g :: got) ++ [v], rest, ⟨by omega, by simp at hgl ⊢; omega, by omega, hgoal⟩, Zd8 rfl rfl rfl rfl⟩
end Go.Abs
namespace Go.Abs
open Go Go.Proofs
set_option maxRecDepth 10000
set_option maxHeartbeats 4000000
theorem Zfq {H : List O} {p : Nat} {cs : List D} (hp : p < H.length) : Zbn (H.set p (.cells cs)) p = some cs := by simp [Zbn, hp]
theorem Zex {H : List O} {p : Nat} {cs : List D} (h : Zbn H p = some cs) : p < H.length ∧ H[p]? = some (.cells cs) := by
  unfold Zbn at h
  split at h
  · rename_i cs' hh; cases h; exact ⟨(List.getElem?_eq_some_iff.1 hh).1, hh⟩
  · cases h
theorem app_slD {c ys : List UInt8} {a : D} (hs : slOf a = some (byE ys)) (hy : ys ≠ []) (hl : c.length + ys.length ≤ 1000000) : Zfz Try.prog 31 (slD c) a false = some (slD (c ++ ys)) := by
  cases c with
  | nil =>
    obtain ⟨y, ys', rfl⟩ := List.exists_cons_of_ne_nil hy
    exact app31n hs (Zq6 _) (by rw [Zk6]; simp at hl ⊢; omega)
  | cons x c =>
    simp only [slD, Yaj]
    rw [Zxs rfl hs (Zq6 _) (by simp only [Zk6]; omega), Zr1]; rfl
theorem Zs5 : slD [] = .osl false true 0 [] := rfl
theorem Zl0 {b : UInt8} {l : List UInt8} : slD (b :: l) = .osl true false 1 (byE (b :: l)) := rfl
theorem Zy7 (n : Nat) : putL n ≠ [] := by simp [putL]
theorem len22 {ex fu : Bool} {sz : Nat} {es : List (List E)} {h : List O} : len0 Try.prog 22 (.osl ex fu sz es) h = some es.length := Zk1 Try.underlying22 Zgg
theorem isE_len {xs : List Int} : (isE xs).length = xs.length := by simp [isE]
theorem w26 (H : List O) (p : Nat) (cur : List UInt8) (xs : List Int) (hp : Zbn H p = some [slD cur]) (hok : ∀ x ∈ xs, okN x = true) (hx : xs.length ≤ 1000) (hc : cur.length ≤ 100000) :
    wc 26 [.ptr p 0, .osl true true 1 (isE xs)] H = some (.val Zaw, H.set p (.cells [slD (cur ++ Zds xs)])) := by
  obtain ⟨hlt, hpe⟩ := Zex hp
  have hcv : ∀ i, wcv 26 i = [] := fun _ => rfl
  have hres : Try.f26.results.toList = [] := rfl
  rw [wc, Zbm rfl Try.func26 rfl]
  simp only [Zbj, Yap, Yaq, Nat.reduceAdd, Nat.reduceSub, Yae, Yaj, Yar, Zai, Zc5, Za3, Zae, Zan, Zbd, Za9, Yao, Yan, Yau, ne_eq, reduceCtorEq, not_false_eq_true, implies_true, Yav, Ya2, Yas, Yat, Yak, Yal, Yax, Yay, ↓reduceIte, Zbh, Zab, Zam, Zd0, Option.bind_eq_bind, Yb3, Yaw, Option.pure_def, Za1 (hcv _), Try.ntmps26, len22, isE_len, Zci, taken, Zbi, Zgf, Zfb, Zfj, Zkk, Zf6]
  refine Zff (fun (n : Nat) (s : St) => ∃ (i : Nat) (H2 : List O), (i + n = xs.length ∧ H2 = H.set p (.cells [slD (cur ++ Zds (xs.take i))])) ∧ ∃ zs_, s = ⟨mkT [some (.ptr p 0), none, none, none, none, none, none, none, some (.osl false true 1 (isE xs)), some (.int .i64 xs.length), some (.int .i64 i), none, none, none, none, none, none, none, none, none, none, none, none, none, none, none, none, none, none] zs_ 0, [], .no, H2⟩) ?_ (xs.length) ⟨0, H, ⟨by omega, by rw [Zpr]; simpa [Zds] using hpe⟩, Zd8 rfl rfl rfl rfl⟩
  rintro n _ ⟨i, H2, hf_o, zs_o, rfl⟩ IH_o
  obtain ⟨hn, rfl⟩ := hf_o
  by_cases hi : i < xs.length
  rotate_left
  · have e2 : decide ((i : Int) < xs.length) = false := by simp; omega
    have hz : xs.take i = xs := List.take_of_length_le (by omega)
    rw [hz]
    simp only [Nat.reduceAdd, Zai, Zfv, Za7, Zao, Za3, Zeq, Zer, Ze2, Zae, Zan, Za9, ne_eq, reduceCtorEq, not_false_eq_true, implies_true, Ya2, Yas, Yat, Yak, Yal, ↓reduceIte, Za6, Zab, Zc6, Zbs, Zfh, Zad, Zac, Zd9, mkT, Yaw, Za1 (hcv _), hres, e2, Ze6, Ybr]
  have e2 : decide ((i : Int) < xs.length) = true := by simp; omega
  have hxi : xs[i]? = some xs[i] := List.getElem?_eq_getElem hi
  have hok1 := hok xs[i] (List.getElem_mem hi)
  generalize xs[i] = x at hxi hok1
  have ia := rd_ix (a := .osl false true 1 (isE xs)) Rd.osl hxi
  obtain ⟨m, rfl⟩ : ∃ m : Nat, x = m := ⟨x.toNat, by simp [okN] at hok1; omega⟩
  have hm : m ≤ 1099511627776 := by simp [okN] at hok1; omega
  have h47 := w47 m hm
  have hnl := Zmh (xs := xs.take i) (fun x hx => hok x (List.mem_of_mem_take hx))
  have hpl := Zuy m hm
  have hap := app_slD (c := cur ++ Zds (xs.take i)) (ys := putL m) (a := .e (.sl (byE (putL m)))) Zkw (Zy7 m) (by simp at hnl ⊢; omega)
  have hsn : cur ++ Zds (xs.take i) ++ putL m = cur ++ Zds (xs.take (i + 1)) := by rw [Zu0 hxi]; simp
  rw [hsn] at hap
  generalize hcu : cur ++ Zds (xs.take i) = c at hap
  obtain ⟨z, zs, hz⟩ : ∃ z zs, cur ++ Zds (xs.take (i + 1)) = z :: zs := List.exists_cons_of_ne_nil (by rw [← hsn]; intro e; exact Zy7 m (List.append_eq_nil_iff.1 e).2)
  rw [hz] at hap
  cases c with
  | nil =>
    simp only [Zs5, Zl0] at hap
    simp only [Yap, Yaq, Nat.reduceAdd, Yar, Zai, Zbw, Zc5, Za7, Zak, Za3, Zcd, Zdx, Zae, Zan, Zbd, Zbf, Zbg, Za9, Zcf, Zbq, Yao, Yam, Yan, Yau, ne_eq, reduceCtorEq, not_false_eq_true, implies_true, Yav, Ya2, Yas, Yat, Yak, Yal, Zau, Zdv, Zb5, Yax, Yay, Zd5, Ybp, ↓reduceIte, Za0, Za6, Zbb, Zbl, Za5, Zbo, Zc8, Za2, Zaf, Zab, Zag, Zaq, Zah, Zam, Zdc, Zc6, Zcz, Zbs, Ze4, and_self, mkT, Yaf, Za8, Ze3, Zba, Zb9, Zb1, Zdl, Zct, Zbt, Zj0, Zco, Ybd, Yb7, Yb8, Zaa, Zaj, Yb3, Ybq, Yb4, Yaw, Yb5, Yab, Try.underlying31, sz3, sz31, ag3, ag31, Za1 (hcv _), e2, ia, h47, st49, Zfq hlt, Zs5, hap, Ybs, Zp7 hi (show xs.length ≤ 1099511627776 by omega), Zd7, Zg4, back, Zci, taken, Zbi, Zdj, beq_self_eq_true, Nat.reduceBEq, Zdd, Zcn, Zd6, Zcg]
    refine IH_o (xs.length - (i + 1)) _ (by omega) ⟨i + 1, H.set p (.cells [slD (z :: zs)]), ⟨by omega, by rw [hz]⟩, Zd8 rfl rfl rfl rfl⟩
  | cons y c =>
    simp only [Zl0] at hap
    simp only [Yap, Yaq, Nat.reduceAdd, Yar, Zai, Zbw, Zc5, Za7, Zak, Za3, Zcd, Zdx, Zae, Zan, Zbd, Zbf, Zbg, Za9, Zcf, Zbq, Yao, Yam, Yan, Yau, ne_eq, reduceCtorEq, not_false_eq_true, implies_true, Yav, Ya2, Yas, Yat, Yak, Yal, Zau, Zdv, Zb5, Yax, Yay, Ybp, ↓reduceIte, Za0, Za6, Zbb, Zbl, Za5, Zbo, Zc8, Za2, Zaf, Zab, Zag, Zaq, Zah, Zam, Zdc, Zc6, Zcz, Zbs, Ze4, and_self, mkT, Yaf, Za8, Ze3, Zba, Zb9, Zb1, Zdl, Zct, Zbt, Zj0, Zco, Ybd, Yb7, Yb8, Zaa, Zaj, Yb3, Ybq, Yb4, Yaw, Yb5, Yab, Try.underlying31, sz3, sz31, ag3, ag31, Za1 (hcv _), e2, ia, h47, st49, Zfq hlt, Zl0, hap, Ybs, Zp7 hi (show xs.length ≤ 1099511627776 by omega), Zd7, Zg4, back, Zci, taken, Zbi, Zdj, beq_self_eq_true, Nat.reduceBEq, Zdd, Zcn, Zd6, Zf5, Zcg, Zgx]
    refine IH_o (xs.length - (i + 1)) _ (by omega) ⟨i + 1, H.set p (.cells [slD (z :: zs)]), ⟨by omega, by rw [hz]⟩, Zd8 rfl rfl rfl rfl⟩
end Go.Abs
namespace Go.Abs
open Go Go.Proofs
set_option maxRecDepth 10000
set_option maxHeartbeats 4000000
theorem Zpj {s : ByteArray} : (Zky s).length = s.size + 1 := by simp [Zky, sL_len]
theorem w53 (H : List O) (p : Nat) (cur : List UInt8) (s : ByteArray) (hp : Zbn H p = some [slD cur]) (hs : s.size < 256) (hc : cur.length ≤ 100000) :
    wc 53 [.ptr p 0, .str s] H = some (.val Zaw, H.set p (.cells [slD (cur ++ Zky s)])) := by
  obtain ⟨hlt, hpe⟩ := Zex hp
  have h82 := w82 s hs
  have hap := app_slD (c := cur) (ys := Zky s) (a := .e (.sl (byE (Zky s)))) Zkw (by simp [Zky]) (by rw [Zpj]; omega)
  obtain ⟨z, zs, hz⟩ : ∃ z zs, cur ++ Zky s = z :: zs := List.exists_cons_of_ne_nil (by simp [Zky])
  rw [hz] at hap
  rw [hz, Zl0]
  have hcv : ∀ i, wcv 53 i = [] := fun _ => rfl
  have hres : Try.f53.results.toList = [] := rfl
  rw [wc, Zbm rfl Try.func53 rfl]
  cases cur with
  | nil =>
    simp only [Zs5, Zl0] at hap hp
    simp only [Zbj, Yap, Yaq, Nat.reduceAdd, Nat.reduceSub, Yae, Yaj, Yar, Zai, Za3, Zae, Zan, Zbd, Zbf, Zbg, Za9, Zcf, Zbq, Yao, Yam, Yan, Yau, ne_eq, reduceCtorEq, not_false_eq_true, implies_true, Yav, Ya2, Yas, Yat, Yak, Yal, Zau, Zdv, Zb5, Yax, Yay, Zd5, Ybp, ↓reduceIte, Za0, Zbb, Zbl, Za5, Zc8, Za2, Zaf, Zab, Zaq, Zah, Ze4, Zfh, Zad, Zac, Zd9, and_self, Yaf, Za8, Zba, Zb9, Zb1, Zdl, Zct, Zbt, Zco, Ybd, Yb7, Yb8, Ybi, Yba, Zaa, Zaj, Yb3, Ybq, Yb4, Yaw, Yb5, Yab, Try.underlying31, sz31, ag31, Za1 (hcv _), Try.ntmps53, hres, h82, st49, hp, hap, Ze6, Ybr, Zd7, Zg4, Zhh, Zfp, Ziw, back, Zci, taken, Zbi, Zdj, beq_self_eq_true, Nat.reduceBEq, Zdd, Zcn, Zgf, Zfb, Zd6, Zcg, Zi2, Zi8, Zf6]
  | cons y c =>
    simp only [Zl0] at hap hp
    simp only [Zbj, Yap, Yaq, Nat.reduceAdd, Nat.reduceSub, Yae, Yaj, Yar, Zai, Za3, Zae, Zan, Zbd, Zbf, Zbg, Za9, Zcf, Zbq, Yao, Yam, Yan, Yau, ne_eq, reduceCtorEq, not_false_eq_true, implies_true, Yav, Ya2, Yas, Yat, Yak, Yal, Zau, Zb5, Yax, Yay, Ybp, ↓reduceIte, Za0, Zbb, Zbl, Za5, Zc8, Za2, Zaf, Zab, Zaq, Zah, Ze4, Zfh, Zad, Zac, Zd9, and_self, Yaf, Za8, Zba, Zb9, Zb1, Zdl, Zct, Zbt, Zco, Ybd, Yb7, Yb8, Ybi, Yba, Zaa, Zaj, Yb3, Ybq, Yb4, Yaw, Yb5, Yab, Try.underlying31, sz31, ag31, Za1 (hcv _), Try.ntmps53, hres, h82, st49, hp, Zfq hlt, hap, Ybs, Ze6, Ybr, Zd7, Zg4, Zhh, Zfp, Ziw, back, Zci, taken, Zbi, Zdj, beq_self_eq_true, Nat.reduceBEq, Zdd, Zcn, Zgf, Zfb, Zd6, Zf5, Zcg, Zi2, Zgx, Zi8, Zf6]
theorem w55 (H : List O) (p : Nat) (cur : List UInt8) (a : D) (xs : List Int) (hp : Zbn H p = some [slD cur]) (ha : Rd a (isE xs)) (hx : xs.length < 256) (hok : xs.all okN = true) (hc : cur.length ≤ 100000) :
    wc 55 [.ptr p 0, a] H = some (.val Zaw, H.set p (.cells [slD (cur ++ Znv xs)])) := by
  obtain ⟨hlt, hpe⟩ := Zex hp
  have h83 := w83 a xs ha hx
  rw [hok] at h83
  simp only [if_true] at h83
  have hnl := Zmh (xs := xs) (by simpa using hok)
  have hap := app_slD (c := cur) (ys := Znv xs) (a := .e (.sl (byE (Znv xs)))) Zkw (by simp [Znv]) (by simp [Znv]; omega)
  obtain ⟨z, zs, hz⟩ : ∃ z zs, cur ++ Znv xs = z :: zs := List.exists_cons_of_ne_nil (by simp [Znv])
  rw [hz] at hap
  rw [hz, Zl0]
  have hcv : ∀ i, wcv 55 i = [] := fun _ => rfl
  have hres : Try.f55.results.toList = [] := rfl
  rw [wc, Zbm rfl Try.func55 rfl]
  cases cur with
  | nil =>
    simp only [Zs5, Zl0] at hap hp
    simp only [Zbj, Yap, Yaq, Nat.reduceAdd, Nat.reduceSub, Yae, Yaj, Yar, Zai, Za3, Zae, Zan, Zbd, Zbf, Zbg, Za9, Zcf, Zbq, Yao, Yam, Yan, Yau, ne_eq, reduceCtorEq, not_false_eq_true, implies_true, Yav, Ya2, Yas, Yat, Yak, Yal, Zau, Zdv, Zb5, Yax, Yay, Zd5, Ybp, ↓reduceIte, Za0, Zbb, Zbl, Za5, Zc8, Za2, Zaf, Zab, Zaq, Zah, Ze4, Zfh, Zad, Zac, Zd9, and_self, Yaf, Za8, Zba, Zb9, Zb1, Zdl, Zct, Zbt, Zco, Ybd, Yb7, Yb8, Ybi, Yba, Zaa, Zaj, Yb3, Ybq, Yb4, Yaw, Yb5, Yab, Try.underlying31, sz31, ag31, Za1 (hcv _), Try.ntmps55, hres, ha.ownD, h83, st49, hp, hap, Ze6, Ybr, Zd7, Zg4, Zhh, Zfp, Ziw, back, Zci, taken, Zbi, Zdj, beq_self_eq_true, Nat.reduceBEq, Zdd, Zcn, Zgf, Zfb, Zd6, Zcg, Zi2, Zi8, Zf6]
  | cons y c =>
    simp only [Zl0] at hap hp
    simp only [Zbj, Yap, Yaq, Nat.reduceAdd, Nat.reduceSub, Yae, Yaj, Yar, Zai, Za3, Zae, Zan, Zbd, Zbf, Zbg, Za9, Zcf, Zbq, Yao, Yam, Yan, Yau, ne_eq, reduceCtorEq, not_false_eq_true, implies_true, Yav, Ya2, Yas, Yat, Yak, Yal, Zau, Zb5, Yax, Yay, Ybp, ↓reduceIte, Za0, Zbb, Zbl, Za5, Zc8, Za2, Zaf, Zab, Zaq, Zah, Ze4, Zfh, Zad, Zac, Zd9, and_self, Yaf, Za8, Zba, Zb9, Zb1, Zdl, Zct, Zbt, Zco, Ybd, Yb7, Yb8, Ybi, Yba, Zaa, Zaj, Yb3, Ybq, Yb4, Yaw, Yb5, Yab, Try.underlying31, sz31, ag31, Za1 (hcv _), Try.ntmps55, hres, ha.ownD, h83, st49, hp, Zfq hlt, hap, Ybs, Ze6, Ybr, Zd7, Zg4, Zhh, Zfp, Ziw, back, Zci, taken, Zbi, Zdj, beq_self_eq_true, Nat.reduceBEq, Zdd, Zcn, Zgf, Zfb, Zd6, Zf5, Zcg, Zi2, Zgx, Zi8, Zf6]
def bitZ (b : Bool) : Int := if b then 1 else 0
theorem isE1 {n : Int} : [[E.int .i64 n]] = isE [n] := rfl
theorem isE2 {n m : Int} : [[E.int .i64 n], [E.int .i64 m]] = isE [n, m] := rfl
theorem bs22_2 {a b : Int} : Zef Try.prog 22 2 [(0, .e (.int .i64 a)), (1, .e (.int .i64 b))] = some (.osl true true 1 [[.int .i64 a], [.int .i64 b]]) := by
  simp [Zef, el22, sz3, Zf3, zo3, Zoj, Zkt, cellsOf, notTup, Zfg, Zpd, Zoy, toEs, toE]
theorem bs22_4 {a b c d : Int} : Zef Try.prog 22 4 [(0, .e (.int .i64 a)), (1, .e (.int .i64 b)), (2, .e (.int .i64 c)), (3, .e (.int .i64 d))] = some (.osl true true 1 [[.int .i64 a], [.int .i64 b], [.int .i64 c], [.int .i64 d]]) := by
  simp [Zef, el22, sz3, Zf3, zo3, Zoj, Zkt, cellsOf, notTup, Zfg, Zpd, Zoy, toEs, toE]
theorem w49 (H : List O) (p : Nat) (cur : List UInt8) (b : Bool) (hp : Zbn H p = some [slD cur]) (hc : cur.length ≤ 100000) :
    wc 49 [.ptr p 0, .bool b] H = some (.val Zaw, H.set p (.cells [slD (cur ++ Zds [bitZ b])])) := by
  have hcv : ∀ i, wcv 49 i = [] := fun _ => rfl
  have hres : Try.f49.results.toList = [] := rfl
  rw [wc, Zbm rfl Try.func49 rfl]
  cases b
  · have h26 := w26 H p cur [0] hp (by simp [okN]) (by simp) hc
    simp only [Zbj, Yap, Yaq, Nat.reduceAdd, Nat.reduceSub, Yae, Yaj, Yar, Zai, Za7, Zao, Za3, Zae, Zan, Zbf, Zbg, Za9, Zbq, ne_eq, reduceCtorEq, not_false_eq_true, implies_true, Yav, Ya2, Yas, Yat, Yak, Yal, Zau, Zb5, Yax, Yay, ↓reduceIte, Zca, Za2, Zaf, Zbh, Zaq, Zah, Zec, Zdg, Zam, Zfh, Zad, Zac, Zd9, Option.some.injEq, Prod.mk.injEq, true_and, Ybi, Yba, Yb3, Yaw, Za1 (hcv _), Try.ntmps49, hres, Ybo, Ybe, Zos, isE1, Zci, taken, Zbi, Zdd, Zcn, Zfj, Zcg, h26, Ze6, Ybr]
    rfl
  · have h26 := w26 H p cur [1] hp (by simp [okN]) (by simp) hc
    simp only [Zbj, Yap, Yaq, Nat.reduceAdd, Nat.reduceSub, Yae, Yaj, Yar, Zai, Za7, Zak, Za3, Zae, Zan, Zbf, Zbg, Za9, Zbq, ne_eq, reduceCtorEq, not_false_eq_true, implies_true, Yav, Ya2, Yas, Yat, Yak, Yal, Zau, Zb5, Yax, Yay, ↓reduceIte, Zca, Za2, Zaf, Zbh, Zaq, Zah, Zec, Zdg, Zam, Zfh, Zad, Zac, Zd9, Option.some.injEq, Prod.mk.injEq, true_and, Ybi, Yba, Yb3, Yaw, Za1 (hcv _), Try.ntmps49, hres, Ybo, Ybe, Zos, isE1, Zci, taken, Zbi, Zdd, Zcn, Zfj, Zcg, h26, Ze6, Ybr]
    rfl
end Go.Abs
namespace Go.Abs
open Go Go.Proofs
set_option maxRecDepth 10000
set_option maxHeartbeats 4000000
theorem Zfu {H ex : List O} {p : Nat} (hp : p < H.length) : Zbn (H ++ ex) p = Zbn H p := by simp [Zbn, List.getElem?_append_left hp]
theorem Zqg {H l : List O} {a : O} {n : Nat} (hl : H.length = n) : Zbn (H ++ a :: l) n = Zbn (a :: l) 0 := by subst hl; exact Zar
theorem Zlj {H ex : List O} {p : Nat} {o : O} (hp : p < H.length) : (H ++ ex).set p o = H.set p o ++ ex := List.set_append_left _ _ hp
theorem slD_fitO {n : Nat} {l : List UInt8} : FitO n (.cells [slD l]) := .cells _ (by simp [slD_fit])
def Zn0 (k : ByteArray) (v n : Int) (g : Bool) : List UInt8 := Zky k ++ Zds [v, n] ++ Zds [bitZ g]
theorem w51 (H : List O) (p : Nat) (cur : List UInt8) (k : ByteArray) (v n : Int) (g : Bool) (hp : Zbn H p = some [slD cur]) (hk : k.size < 256) (hv : okN v = true) (hn : okN n = true) (hc : cur.length ≤ 50000) :
    wc 51 [.ptr p 0, .agg (Zgi k v n g)] H = some (.val Zaw, H.set p (.cells [slD (cur ++ Zn0 k v n g)])) := by
  obtain ⟨hlt, hpe⟩ := Zex hp
  have l1 : (Zky k).length ≤ 256 := by rw [Zpj]; omega
  have l2 : (Zds [v, n]).length ≤ 14 := Zmh (xs := [v, n]) (by simp [hv, hn])
  have h53 := w53 (H ++ [.cells (Zgi k v n g)]) p cur k (by rw [Zfu hlt]; exact hp) hk (by omega)
  rw [Zlj hlt] at h53
  have h26 := w26 (H.set p (.cells [slD (cur ++ Zky k)]) ++ [.cells (Zgi k v n g)]) p (cur ++ Zky k) [v, n] (by rw [Zfu (by simpa using hlt)]; exact Zfq hlt) (by simp [hv, hn]) (by simp) (by simp; omega)
  rw [Zlj (by simpa using hlt), Ybs] at h26
  have h49 := w49 (H.set p (.cells [slD (cur ++ Zky k ++ Zds [v, n])]) ++ [.cells (Zgi k v n g)]) p (cur ++ Zky k ++ Zds [v, n]) g (by rw [Zfu (by simpa using hlt)]; exact Zfq hlt) (by simp; omega)
  rw [Zlj (by simpa using hlt), Ybs] at h49
  have hpl : cur ++ Zky k ++ Zds [v, n] ++ Zds [bitZ g] = cur ++ Zn0 k v n g := by simp [Zn0]
  rw [hpl] at h49
  have hgc : ∀ ex, gc H.length H (H.set p (.cells [slD (cur ++ Zn0 k v n g)]) ++ ex) Zaw = H.set p (.cells [slD (cur ++ Zn0 k v n g)]) := fun ex => gc_set (.tup [] (by simp)) hpe slD_fitO
  simp only [Zgi] at h53 h26 h49
  have hcv : ∀ i, wcv 51 i = [] := fun _ => rfl
  have hres : Try.f51.results.toList = [] := rfl
  rw [wc, Zbm rfl Try.func51 rfl]
  simp only [Zbj, Yap, Yaq, Nat.reduceAdd, Nat.reduceSub, Yae, Yaj, Yar, Zai, Za3, Zae, Zan, Zbf, Zbg, Za9, Zbq, Yam, Yan, Yau, Nat.reduceLeDiff, ne_eq, reduceCtorEq, not_false_eq_true, implies_true, Yav, Ya2, Yas, Yat, Yak, Yal, Zau, Zbu, Zb5, Yax, Yay, Zb7, ↓reduceIte, Zdq, Zca, Za5, Za2, Zaf, Zab, Zaq, Zah, Zec, Zdg, Zfh, Zad, Zac, Zd9, Zbk, Za8, Zba, Zb9, Zb0, Zb8, Zbt, Ybi, Yba, Zaa, Zaj, Yb3, Yb4, Yaw, Yb5, Yab, sz3, sz4, sz9, ag3, ag4, ag9, st24, Za1 (hcv _), Try.ntmps51, hres, Zgi, h53, Zqg, Ybr, Ybo, Ybe, bs22_2, isE2, h26, h49, hgc, back, Zci, taken, Zbi, Zdj, Zdd, Zcn, Zfj, Zcg]
end Go.Abs
namespace Go.Abs
open Go Go.Proofs
set_option maxRecDepth 10000
set_option maxHeartbeats 4000000
theorem Zlq {H : List O} {p q : Nat} {o : O} (h : p ≠ q) : Zbn (H.set p o) q = Zbn H q := by simp only [Zbn]; rw [List.getElem?_set_ne h]
theorem put26 (H : List O) (p : Nat) (cur : List UInt8) (n : Int) (hp : Zbn H p = some [slD cur]) (hn : okN n = true) (hc : cur.length ≤ 2000) : wc 26 [.ptr p 0, .osl true true 1 (isE [n])] H = some (.val Zaw, H.set p (.cells [slD (cur ++ Zds [n])])) :=
  w26 H p cur [n] hp (by simp [hn]) (by simp) (by omega)
theorem Zq8 {n : Int} (hn : okN n = true) : (Zds [n]).length ≤ 7 := Zmh (xs := [n]) (by simp [hn])
section
variable (H : List O) (p q : Nat) (cur : List UInt8) (m : Msg) (l : D) (hp : Zbn H p = some [slD cur]) (hq : Zbn H q = some (m.cs l)) (hpq : p ≠ q) (hl : Rd l (isE m.list)) (hc : cur.length ≤ 1000)
  include hp hq hpq hc
theorem w48 (hn : okN m.key = true) : wc 48 [.ptr p 0, .ptr q 0] H = some (.val Zaw, H.set p (.cells [slD (cur ++ Zds [m.key] ++ Zds [bitZ m.slow])])) := by
  obtain ⟨hlt, _⟩ := Zex hp
  have hl1 := Zq8 hn
  have h1 := put26 H p cur m.key hp hn (by omega)
  have h2 := w49 (H.set p (.cells [slD (cur ++ Zds [m.key])])) p (cur ++ Zds [m.key]) m.slow (Zfq hlt) (by simp; omega)
  rw [Ybs] at h2
  have hcv : ∀ i, wcv 48 i = [] := fun _ => rfl
  have hres : Try.f48.results.toList = [] := rfl
  rw [wc, Zbm rfl Try.func48 rfl]
  simp only [Zbj, Yap, Yaq, Nat.reduceAdd, Nat.reduceSub, Yae, Yaj, Yar, Zai, Za3, Zae, Zan, Zbf, Zbg, Za9, Zbq, Yam, Yan, Yau, Nat.reduceLeDiff, ne_eq, reduceCtorEq, not_false_eq_true, implies_true, Yav, Ya2, Yas, Yat, Yak, Yal, Zau, Zb5, Yax, Yay, Zb7, ↓reduceIte, Zca, Za5, Za2, Zaf, Zab, Zaq, Zah, Zec, Zdg, Zfh, Zad, Zac, Zd9, Za8, Zba, Zb9, Zbt, Ybi, Yba, Zaa, Zaj, Yb3, Yaw, Yb5, sz3, sz4, ag3, ag4, st27, Za1 (hcv _), Try.ntmps48, hres, Msg.cs, hq, Zlq hpq, Ybo, Ybe, Zos, isE1, h1, h2, Ze6, Ybr, back, Zci, taken, Zbi, Zdj, Zdd, Zcn, Zfj, Zcg]
theorem w56 (hn : okN m.place = true) : wc 56 [.ptr p 0, .ptr q 0] H = some (.val Zaw, H.set p (.cells [slD (cur ++ Zds [m.place] ++ Zds [bitZ m.done])])) := by
  obtain ⟨hlt, _⟩ := Zex hp
  have hl1 := Zq8 hn
  have h1 := put26 H p cur m.place hp hn (by omega)
  have h2 := w49 (H.set p (.cells [slD (cur ++ Zds [m.place])])) p (cur ++ Zds [m.place]) m.done (Zfq hlt) (by simp; omega)
  rw [Ybs] at h2
  have hcv : ∀ i, wcv 56 i = [] := fun _ => rfl
  have hres : Try.f56.results.toList = [] := rfl
  rw [wc, Zbm rfl Try.func56 rfl]
  simp only [Zbj, Yap, Yaq, Nat.reduceAdd, Nat.reduceSub, Yae, Yaj, Yar, Zai, Za3, Zae, Zan, Zbf, Zbg, Za9, Zbq, Yam, Yan, Yau, Nat.reduceLeDiff, ne_eq, reduceCtorEq, not_false_eq_true, implies_true, Yav, Ya2, Yas, Yat, Yak, Yal, Zau, Zb5, Yax, Yay, Zb7, ↓reduceIte, Zca, Za5, Za2, Zaf, Zab, Zaq, Zah, Zec, Zdg, Zfh, Zad, Zac, Zd9, Za8, Zba, Zb9, Zbt, Ybi, Yba, Zaa, Zaj, Yb3, Yaw, Yb5, sz3, sz4, ag3, ag4, st27, Za1 (hcv _), Try.ntmps56, hres, Msg.cs, hq, Zlq hpq, Ybo, Ybe, Zos, isE1, h1, h2, Ze6, Ybr, back, Zci, taken, Zbi, Zdj, Zdd, Zcn, Zfj, Zcg]
  include hl
theorem w50 (hk : m.ikey.size < 256) (hv : okN m.ival = true) (hn : okN m.iver = true) : wc 50 [.ptr p 0, .ptr q 0] H = some (.val Zaw, H.set p (.cells [slD (cur ++ Zn0 m.ikey m.ival m.iver m.gone)])) := by
  have _ := hpq
  have _ := hl
  obtain ⟨hlt, _⟩ := Zex hp
  have h1 := w51 H p cur m.ikey m.ival m.iver m.gone hp hk hv hn (by omega)
  simp only [Zgi] at h1
  have hcv : ∀ i, wcv 50 i = [] := fun _ => rfl
  have hres : Try.f50.results.toList = [] := rfl
  rw [wc, Zbm rfl Try.func50 rfl]
  simp only [Zbj, Yap, Yaq, Nat.reduceAdd, Nat.reduceSub, Yae, Yaj, Yar, Zae, Zan, Zbf, Zbg, Za9, Zbq, Yam, Yan, Yau, Nat.reduceLeDiff, ne_eq, reduceCtorEq, not_false_eq_true, implies_true, Yav, Ya2, Yas, Yat, Yak, Yal, Zbu, Zb5, Yax, Yay, Zb7, ↓reduceIte, Za5, Za2, Zaf, Zab, Zaq, Zah, Zfh, Zad, Zac, Zd9, Za8, Zba, Zb9, Zbt, List.take_succ_cons, Ybd, Yb7, Yb8, Zaa, Zaj, Yb3, Yaw, Yb5, sz24, ag24, st27, Za1 (hcv _), Try.ntmps50, hres, Msg.cs, hq, h1, Ze6, Ybr, back, Zci, taken, Zbi, Zdj]
theorem w52 (hk : m.ikey.size < 256) : wc 52 [.ptr p 0, .ptr q 0] H = some (.val Zaw, H.set p (.cells [slD (cur ++ Zky m.ikey)])) := by
  have _ := hpq
  have _ := hl
  obtain ⟨hlt, _⟩ := Zex hp
  have h1 := w53 H p cur m.ikey hp hk (by omega)
  have hcv : ∀ i, wcv 52 i = [] := fun _ => rfl
  have hres : Try.f52.results.toList = [] := rfl
  rw [wc, Zbm rfl Try.func52 rfl]
  simp only [Zbj, Yap, Yaq, Nat.reduceAdd, Nat.reduceSub, Yae, Yaj, Yar, Zae, Zan, Zbf, Zbg, Za9, Zbq, Yam, Yan, Yau, Nat.reduceLeDiff, ne_eq, reduceCtorEq, not_false_eq_true, implies_true, Yav, Ya2, Yas, Yat, Yak, Yal, Zau, Zb5, Yax, Yay, Zb7, ↓reduceIte, Za5, Za2, Zaf, Zab, Zaq, Zah, Zfh, Zad, Zac, Zd9, Za8, Zba, Zb9, Zbt, Zaa, Zaj, Yb3, Yb4, Yaw, Yb5, sz9, sz24, ag9, st24, st27, Za1 (hcv _), Try.ntmps52, hres, Msg.cs, hq, h1, Ze6, Ybr, back, Zci, taken, Zbi, Zdj]
theorem w54 (hn : okN (IntKind.i64.wrap (m.pred + 1)) = true) (hx : m.list.length < 256) (hok : m.list.all okN = true) : wc 54 [.ptr p 0, .ptr q 0] H = some (.val Zaw, H.set p (.cells [slD (cur ++ Zds [IntKind.i64.wrap (m.pred + 1)] ++ Znv m.list)])) := by
  obtain ⟨hlt, _⟩ := Zex hp
  have hl1 := Zq8 hn
  have h1 := put26 H p cur _ hp hn (by omega)
  have h2 := w55 (H.set p (.cells [slD (cur ++ Zds [IntKind.i64.wrap (m.pred + 1)])])) p (cur ++ Zds [IntKind.i64.wrap (m.pred + 1)]) l m.list (Zfq hlt) hl hx hok (by simp; omega)
  rw [Ybs] at h2
  have hcv : ∀ i, wcv 54 i = [] := fun _ => rfl
  have hres : Try.f54.results.toList = [] := rfl
  rw [wc, Zbm rfl Try.func54 rfl]
  simp only [Zbj, Yap, Yaq, Nat.reduceAdd, Nat.reduceSub, Yae, Yaj, Yar, Zai, Za3, Zae, Zan, Zbf, Zbg, Za9, Zbq, Yam, Yan, Yau, Nat.reduceLeDiff, ne_eq, reduceCtorEq, not_false_eq_true, implies_true, Yav, Ya2, Yas, Yat, Yak, Yal, Zau, Zb5, Yax, Yay, Zb7, ↓reduceIte, Za6, Zca, Za5, Za2, Zaf, Zab, Zag, Zaq, Zah, Zec, Zdg, Zam, Zdc, Zcz, Zfh, Zad, Zac, Zd9, Za8, Zba, Zb9, Zbt, Ybi, Yba, Zaa, Zaj, Yb3, Yaw, Yb5, sz3, sz22, ag3, ag22, st27, Za1 (hcv _), Try.ntmps54, hres, Msg.cs, hq, Zlq hpq, Ybo, Ybe, Zos, isE1, h1, h2, Ze6, Ybr, hl.own, hl.ownD, back, Zci, taken, Zbi, Zdj, Zdd, Zcn, Zfj, Zcg]
theorem w57 (hn : okN m.code = true) : wc 57 [.ptr p 0, .ptr q 0] H = some (.val Zaw, H.set p (.cells [slD (cur ++ Zds [m.code])])) := by
  have _ := hpq
  have _ := hl
  obtain ⟨hlt, _⟩ := Zex hp
  have h1 := put26 H p cur _ hp hn (by omega)
  have hcv : ∀ i, wcv 57 i = [] := fun _ => rfl
  have hres : Try.f57.results.toList = [] := rfl
  rw [wc, Zbm rfl Try.func57 rfl]
  simp only [Zbj, Yap, Yaq, Nat.reduceAdd, Nat.reduceSub, Yae, Yaj, Yar, Zae, Zan, Zbf, Zbg, Za9, Zbq, Yam, Yan, Yau, ne_eq, reduceCtorEq, not_false_eq_true, implies_true, Yav, Ya2, Yas, Yat, Yak, Yal, Zau, Zb5, Yax, Yay, Zb7, ↓reduceIte, Zca, Za5, Za2, Zaf, Zab, Zaq, Zah, Zec, Zdg, Zfh, Zad, Zac, Zd9, Za8, Zba, Zb9, Zbt, Ybi, Yba, Zaa, Zaj, Yb3, Yaw, Yb5, Yab, sz25, ag25, st27, Za1 (hcv _), Try.ntmps57, hres, Msg.cs, hq, Ybo, Ybe, Zos, isE1, h1, Ze6, Ybr, back, Zci, taken, Zbi, Zdj, Zdd, Zcn, Zfj, Zcg]
theorem w58 (hn : okN m.code = true) (hk : m.ikey.size < 256) (hv : okN m.ival = true) (hv2 : okN m.iver = true) : wc 58 [.ptr p 0, .ptr q 0] H = some (.val Zaw, H.set p (.cells [slD (cur ++ Zds [m.code] ++ (if m.code == 0 then Zn0 m.ikey m.ival m.iver m.gone else []))])) := by
  have _ := hl
  obtain ⟨hlt, _⟩ := Zex hp
  have hl1 := Zq8 hn
  have h1 := put26 H p cur _ hp hn (by omega)
  have h2 := w51 (H.set p (.cells [slD (cur ++ Zds [m.code])])) p (cur ++ Zds [m.code]) m.ikey m.ival m.iver m.gone (Zfq hlt) hk hv hv2 (by simp; omega)
  rw [Ybs] at h2
  simp only [Zgi] at h2
  have hcv : ∀ i, wcv 58 i = [] := fun _ => rfl
  have hres : Try.f58.results.toList = [] := rfl
  rw [wc, Zbm rfl Try.func58 rfl]
  cases hc0 : m.code == 0
  · simp only [Zbj, Yap, Yaq, Nat.reduceAdd, Nat.reduceSub, Yae, Yaj, Yar, Zai, Zbw, Za7, Zao, Za3, Zae, Zan, Zbf, Zbg, Za9, Zbq, Yam, Yan, Yau, ne_eq, reduceCtorEq, not_false_eq_true, implies_true, Yav, Ya2, Yas, Yat, Yak, Yal, Zau, Zb5, Yax, Yay, Zb7, ↓reduceIte, Za6, Zca, Za5, Za2, Zaf, Zab, Zag, Zaq, Zah, Zec, Zdg, Zam, Zb6, Zay, Zfh, Zad, Zac, Zd9, Yaf, Za8, Zba, Zb9, Zbt, Ybi, Yba, Zaa, Zaj, Yb3, Yaw, Yb5, Yab, sz25, ag25, st27, Za1 (hcv _), Try.ntmps58, hres, Msg.cs, hq, Zlq hpq, Ybo, Ybe, Zos, isE1, h1, Ze6, Ybr, hc0, back, Zci, taken, Zbi, Zdj, Zdd, Zcn, Zfj, Zcg]
  · simp only [Zbj, Yap, Yaq, Nat.reduceAdd, Nat.reduceSub, Yae, Yaj, Yar, Zai, Za7, Zak, Za3, Zae, Zan, Zbf, Zbg, Za9, Zbq, Yam, Yan, Yau, Nat.reduceLeDiff, ne_eq, reduceCtorEq, not_false_eq_true, implies_true, Yav, Ya2, Yas, Yat, Yak, Yal, Zau, Zbu, Zb5, Yax, Yay, Zb7, ↓reduceIte, Za6, Zca, Za5, Za2, Zaf, Zab, Zag, Zaq, Zah, Zec, Zdg, Zam, Zb6, Zay, Zfh, Zad, Zac, Zd9, Za8, Zba, Zb9, Zbt, List.take_succ_cons, Ybd, Yb7, Yb8, Ybi, Yba, Zaa, Zaj, Yb3, Yaw, Yb5, Yab, sz24, sz25, ag24, ag25, st27, Za1 (hcv _), Try.ntmps58, hres, Msg.cs, hq, Zlq hpq, Ybo, Ybe, Zos, isE1, h1, h2, Ze6, Ybr, hc0, back, Zci, taken, Zbi, Zdj, Zdd, Zcn, Zfj, Zcg]
end
end Go.Abs
namespace Go.Abs
open Go Go.Proofs
set_option maxRecDepth 10000
set_option maxHeartbeats 4000000
section
variable {P : Program} {s : St} {l : List Oper} {dst : Option Tmp} {ty : TypeId} {pos : String} {af : Array Edge} {g : Option (Nat × Bool)}
theorem Zub {t : TypeId} {m k x : Operand} : exOp P l ⟨dst, .insert t m k x, ty, pos, af, g⟩ s = match mapT P t, rd s m, rd s k, sh s x with
    | some (kt, _), some (.map i), some (.e k), some (v, s1) =>
      if Znx P kt k && Zkx v then
        match s1.h[i]? with
        | some (.map es) => (setD k v es).map fun es' => (.val Zaw, { s1 with h := s1.h.set i (.map es') })
        | _ => none
      else none
    | _, _, _, _ => none := rfl
theorem Zei {t : TypeId} {m k : Operand} {ok : Bool} : exOp P l ⟨dst, .lookup t m k ok, ty, pos, af, g⟩ s = match mapT P t, rd s m, rd s k with
    | some (kt, et), some m, some (.e k) =>
      if Znx P kt k then
        match Zu2 s.h m k with
        | some (some d) => some (.val (if ok then .tup [d, .bool true] else d), s)
        | some none => (Zhb P et).map fun z => (.val (if ok then .tup [z, .bool false] else z), s)
        | none => none
      else none
    | _, _, _ => none := rfl
end
theorem Ztz : ofV (.map none) = some (.e .nilmap) := rfl
theorem key5 {n : Int} : Znx Try.prog 5 (.int .u8 n) = true := by simp [Znx, Try.underlying5]
theorem Ztx {f : Fn} {a b : List D} : Zkx (.func f a b) = true := of_decide_eq_true rfl
theorem setD_nil {k : E} {v : D} : setD k v [] = some [(k, v)] := rfl
theorem setD_ne {a b : Int} {v d : D} {es : List (E × D)} (h : (a == b) = false) : setD (.int .u8 a) v ((.int .u8 b, d) :: es) = (setD (.int .u8 a) v es).map ((.int .u8 b, d) :: ·) := by simp [setD, Zyv, h]
theorem Zh9 {a b : Int} {d : D} {es : List (E × D)} (h : (a == b) = false) : Zqz (.int .u8 a) ((.int .u8 b, d) :: es) = Zqz (.int .u8 a) es := by simp [Zqz, Zyv, h]
theorem Zgc {a b : Int} {d : D} {es : List (E × D)} (h : (a == b) = true) : Zqz (.int .u8 a) ((.int .u8 b, d) :: es) = some (some d) := by simp [Zqz, Zyv, h]
theorem Zw0 {k : E} : Zqz k [] = some none := rfl
def Zi0 (q : Nat) : List (E × D) := [(.int .u8 4, .func (.func 48) [] [.ptr q 0]), (.int .u8 5, .func (.func 50) [] [.ptr q 0]), (.int .u8 6, .func (.func 52) [] [.ptr q 0]), (.int .u8 7, .func (.func 54) [] [.ptr q 0]), (.int .u8 10, .func (.func 56) [] [.ptr q 0]), (.int .u8 11, .func (.func 57) [] [.ptr q 0]), (.int .u8 12, .func (.func 58) [] [.ptr q 0])]
theorem w27 (m : Msg) (l : D) (hl : Rd l (isE m.list)) (h : List O) : wc 27 [.agg (m.cs l)] h = some (.val (.map (h.length + 1)), h ++ [.cells (m.cs l), .map (Zi0 h.length)]) := by
  have hcv : ∀ i, wcv 27 i = [] := fun _ => rfl
  have hres : Try.f27.results.toList = [ResultVar.tmp 2] := rfl
  rw [wc, Zbm rfl Try.func27 rfl]
  simp only [Zbj, Yap, Yaq, Nat.reduceSub, Yae, Yaj, Yar, Zai, Zb2, Za3, Zae, Zan, Za9, Zcf, Yam, Yan, ne_eq, reduceCtorEq, not_false_eq_true, implies_true, Ya2, Yas, Yat, Yak, Yal, Zbu, Zb5, Zcp, Zfi, Yax, Yay, Zb7, ↓reduceIte, Za4, Za0, Zdq, Zel, Zhv, Za2, Zaf, Zap, Zab, Zag, Zec, Zdg, Zam, Zb3, Zad, Zac, Zal, Zav, Option.some.injEq, Prod.mk.injEq, true_and, Zdh, hlen, Zin, hgetn, Zb0, Zb8, Yb3, Bool.and_true, Yaw, Za1 (hcv _), Try.ntmps27, hres, Msg.cs, hl.own, Zub, mp52, key5, Ztx, setD_nil, setD_ne, Int.reduceBEq, Ztz]
  rw [Zu8]
  · rfl
  · intro hf; cases hf; omega
end Go.Abs
namespace Go.Abs
open Go Go.Proofs
set_option maxHeartbeats 4000000
theorem Zms {m o : Msg} : (decide (m.list = o.list) && Zlk m o) = true ↔ m = o := by
  cases m; cases o
  simp only [Zlk, Ybt, decide_eq_true_eq, beq_iff_eq, bab, Msg.mk.injEq]
  constructor
  · rintro ⟨h1, h2, h3, h4, h5, h6, h7, h8, h9, h10, ⟨h11, h12, h13, h14⟩, h15⟩
    exact ⟨h2, h3, h4, h5, h6, h7, h8, h9, h10, h1, h11, h12, h13, h14, h15⟩
  · rintro ⟨h2, h3, h4, h5, h6, h7, h8, h9, h10, h1, h11, h12, h13, h14, h15⟩
    exact ⟨h1, h2, h3, h4, h5, h6, h7, h8, h9, h10, ⟨h11, h12, h13, h14⟩, h15⟩
theorem isPlace_iff {n : Int} : Zfc n = true ↔ 0 ≤ n ∧ n < 65536 := by simp [Zfc]
theorem asks_eq {k : Int} : Zwa k = asks k := by
  simp only [Zwa, asks]
  congr 1
structure Msg.Fits (m : Msg) : Prop where
  k1 : 1 ≤ m.kind
  k2 : m.kind ≤ 12
  frm : Zfc m.frm = true
  to : Zfc m.to = true
  ne : m.frm ≠ m.to
  c1 : m.asker * 1048576 < m.call
  c2 : m.call ≤ m.asker * 1048576 + 1048576
  fine : m.fine = true
  off : m.off = m.head
theorem Zog {m : Msg} (h1 : Zfc m.frm = true) (h2 : Zfc m.to = true) : 0 ≤ m.asker ∧ m.asker < 65536 := by
  rw [isPlace_iff] at h1 h2
  unfold Msg.asker; split <;> assumption
theorem Zle {m : Msg} (hlo : -9223372036854775808 ≤ m.call) (hhi : m.call ≤ 9223372036854775807) : m.right = true ↔ m.Fits := by
  have ha : m.asker' = m.asker := by simp only [Msg.asker', Msg.asker, asks_eq]
  simp only [Msg.right, Ybt, Bool.not_eq_true', decide_eq_false_iff_not, beq_eq_false_iff_ne, beq_iff_eq, ha]
  rw [← Ybt, Zms]
  constructor
  · rintro ⟨h1, h2, h3, h4, h5, h6, h7, h8, h9⟩
    have hp := Zog h3 h4
    rw [Zft (n := m.call - 1) (by omega) (by omega)] at h7
    rw [Int.tdiv_eq_ediv_of_nonneg (by omega)] at h7
    rw [Zft (by omega) (by omega)] at h7
    exact ⟨by omega, by omega, h3, h4, h5, by omega, by omega, h8, h9⟩
  · rintro ⟨h1, h2, h3, h4, h5, h6, h7, h8, h9⟩
    have hp := Zog h3 h4
    refine ⟨by omega, by omega, h3, h4, h5, by omega, ?_, h8, h9⟩
    rw [Zft (n := m.call - 1) (by omega) (by omega)]
    rw [Int.tdiv_eq_ediv_of_nonneg (by omega)]
    rw [Zft (by omega) (by omega)]
    omega
theorem fineKey_iff {k : ByteArray} : Zo0 k = true ↔ 1 ≤ k.size ∧ k.size ≤ 20 := by
  simp only [Zo0, Ybt, Bool.not_eq_true', decide_eq_true_eq, bab, decide_eq_false_iff_not]
  have : k = { data := #[] } ↔ k.size = 0 := by
    cases k with | mk d =>
    simp [ByteArray.size]
  rw [this]; omega
theorem finePair_iff {k : ByteArray} {v n : Int} : Zj7 k v n = true ↔ (1 ≤ k.size ∧ k.size ≤ 20) ∧ (0 ≤ v ∧ v ≤ 1048576) ∧ 0 ≤ n ∧ n ≤ 1048576 := by
  simp only [Zj7, Zn8, Ybt, fineKey_iff, decide_eq_true_eq, and_assoc]
theorem Zqj {k : ByteArray} {v n : Int} : Zh2 k v n = true ↔ (1 ≤ k.size ∧ k.size ≤ 20) ∧ (0 ≤ v ∧ v ≤ 1048576) ∧ 0 ≤ n ∧ n ≤ 1048576 := by
  simp only [Zh2, Ybt, decide_eq_true_eq]
  omega
theorem finePair_eq {k : ByteArray} {v n : Int} : Zh2 k v n = Zj7 k v n := by
  rw [Bool.eq_iff_iff, finePair_iff, Zqj]
theorem has_off {m : Msg} : (m.bare = m.head ∧ m.has = true) ↔ (m.off = m.head ∧ m.fine = true) := by
  have hk : (m.kind == 6) = true ∨ (m.kind == 6) = false := by cases m.kind == 6 <;> simp
  rcases hk with h6 | h6
  · have h : m.kind = 6 := by simpa using h6
    have h4 : (m.kind == 4) = false := by simp [h]
    have h5 : (m.kind == 5) = false := by simp [h]
    simp only [Msg.bare, Msg.off, Msg.has, Msg.fine, h4, h5, h6, if_true, Yav, if_false, Msg.noItem, Msg.head, Msg.mk.injEq, Ybt, Zqj, fineKey_iff, beq_iff_eq, bab, decide_eq_true_eq]
    constructor
    · rintro ⟨h1, h2, h3, h7, h8, h9⟩
      refine ⟨?_, h2.1⟩
      simp_all
    · rintro ⟨h1, h2⟩
      simp_all
  · have e1 : m.bare = m.off := by simp only [Msg.bare, Msg.off, h6]; rfl
    have e2 : m.has = m.fine := by simp only [Msg.has, Msg.fine, h6, finePair_eq]; rfl
    rw [e1, e2]
theorem right6_fits {m : Msg} : m.right6 = true ↔ m.Fits := by
  simp only [Msg.right6, Ybt, Bool.not_eq_true', decide_eq_false_iff_not, beq_eq_false_iff_ne]
  rw [← Ybt, Zms]
  constructor
  · rintro ⟨h1, h2, h3, h4, h5, h6, h7, h8, h9⟩
    have hp := Zog h3 h4
    have hf : m.first = m.asker * 1048576 + 1 := by
      unfold Msg.first
      rw [Zft (n := m.asker * 1048576) (by omega) (by omega), Zft (by omega) (by omega)]
    rw [hf] at h6 h7
    rw [Zft (by omega) (by omega)] at h7
    obtain ⟨q1, q2⟩ := has_off.1 ⟨h8, h9⟩
    exact ⟨by omega, by omega, h3, h4, h5, by omega, by omega, q2, q1⟩
  · rintro ⟨h1, h2, h3, h4, h5, h6, h7, h8, h9⟩
    have hp := Zog h3 h4
    have hf : m.first = m.asker * 1048576 + 1 := by
      unfold Msg.first
      rw [Zft (n := m.asker * 1048576) (by omega) (by omega), Zft (by omega) (by omega)]
    obtain ⟨q1, q2⟩ := has_off.2 ⟨h9, h8⟩
    refine ⟨by omega, by omega, h3, h4, h5, by rw [hf]; omega, ?_, q1, q2⟩
    rw [hf, Zft (by omega) (by omega)]
    omega
theorem Zvw {m : Msg} (h : m.Fits) : okN m.kind = true ∧ okN m.call = true ∧ okN m.frm = true ∧ okN m.to = true := by
  have hp := Zog h.frm h.to
  have h1 := isPlace_iff.1 h.frm
  have h2 := isPlace_iff.1 h.to
  have := h.k1; have := h.k2; have := h.c1; have := h.c2
  simp only [okN, Ybt, decide_eq_true_eq]
  omega
end Go.Abs
