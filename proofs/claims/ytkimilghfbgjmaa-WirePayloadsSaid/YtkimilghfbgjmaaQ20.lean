/-
  WIRE: bytes. WIRE: the bits of bytes, the sum. WIRE: the sum. WIRE: frame.Close, frame.Open. WIRE: slices.Reverse, in place. WIRE: numbers' bytes. No condition.
-/
import Derived.Test.YtkimilghfbgjmaaQ19
import Derived.Laws.Strings2

open List renaming all_nil → Ybk, any_cons → Yax, any_nil → Yay, cons_append → Yaj, foldl_nil → Ybl, forall_mem_cons → Yb9, getD_cons_succ → Yak, getD_cons_zero → Yal, getElem?_cons_succ → Yam, getElem?_cons_zero → Yan, getElem?_toArray → Yao, length_cons → Yap, length_nil → Yaq, map_cons → Ybi, map_nil → Yba, nil_append → Yar, not_mem_nil → Ybb, replicate → Yae, set_cons_succ → Yas, set_cons_zero → Yat, toList_toArray → Ybj
open Option renaming bind_some → Yau, map_some → Ya2
open Bool renaming and_self → Ybm, false_eq_true → Yav, not_false → Ybg, not_true → Yb2, or_self → Yb3
open Nat renaming le_refl → Yab, zero_add → Yaw
namespace Go.Abs
open Go Go.Proofs
set_option maxRecDepth 10000
set_option maxHeartbeats 4000000
theorem wu32 (x : Int) : IntKind.u32.wrap x = ((BitVec.ofInt 32 x).toNat : Int) := by
  rw [BitVec.toNat_ofInt]
  simp only [IntKind.wrap, IntKind.bits, IntKind.signed]
  simp
  omega
theorem Zhs {w : Nat} (v : BitVec w) : BitVec.ofInt w (v.toNat : Int) = v := by
  apply BitVec.eq_of_toNat_eq
  rw [BitVec.toNat_ofInt]
  have := v.isLt
  have h2 : ((v.toNat : Int) % ((2 ^ w : Nat) : Int)) = v.toNat := Int.emod_eq_of_lt (by omega) (by exact_mod_cast this)
  rw [h2]; simp
def stp (s : BitVec 32) (b : Bool) : BitVec 32 := ((s <<< 1) + (if b then 1#32 else 0#32)) ^^^ ((-(s >>> 31)) &&& 1947962583#32)
theorem shl1 (s : BitVec 32) : BitVec.ofInt 32 ((s.toNat : Int) * 2 ^ min 1 32) = s <<< 1 := by
  apply BitVec.eq_of_toNat_eq
  rw [BitVec.toNat_ofInt, BitVec.toNat_shiftLeft]
  simp [Nat.shiftLeft_eq]
  omega
theorem Zuq (s : BitVec 32) (k : Nat) (hk : k ≤ 32) : ((s.toNat : Int).fdiv (2 ^ min k 32)) = ((s >>> k).toNat : Int) := by
  rw [BitVec.toNat_ushiftRight, Nat.shiftRight_eq_div_pow, Nat.min_eq_left hk]
  rw [Int.fdiv_eq_ediv_of_nonneg _ (Int.le_of_lt (Int.pow_pos (by decide)))]
  norm_cast
theorem neg32 (s : BitVec 32) : BitVec.ofInt 32 (0 - (s.toNat : Int)) = -s := by
  apply BitVec.eq_of_toNat_eq
  rw [BitVec.toNat_ofInt, BitVec.toNat_neg]
  have := s.isLt
  simp
  omega
theorem add1 (s : BitVec 32) : BitVec.ofInt 32 ((s.toNat : Int) + 1) = s + 1#32 := by
  apply BitVec.eq_of_toNat_eq
  rw [BitVec.toNat_ofInt, BitVec.toNat_add]
  have := s.isLt
  simp
  omega
theorem u8_of (v : BitVec 32) : IntKind.u8.wrap (v.toNat : Int) = ((UInt8.ofBitVec (v.setWidth 8)).toNat : Int) := by
  rw [IntKind.wrap_u8]
  simp [← UInt8.toNat_toBitVec]
def byR (b : UInt8) : List E := [.int .u8 (b.toNat : Int)]
def byE (l : List UInt8) : List (List E) := l.map byR
def BA (l : List UInt8) : ByteArray := ⟨l.toArray⟩
theorem Zun (l : List UInt8) : Zi7 (byE l) = some l := by
  induction l with
  | nil => rfl
  | cons b l ih =>
    have : Zs1 (byR b) = some b := by simp [Zs1, byR]
    simp only [byE, Ybi, Zi7, this] at ih ⊢
    rw [ih]
theorem Zq6 (l : List UInt8) : Zlm 1 (byE l) = true := by simp [Zlm, byE, byR]
theorem BA_inj {a b : List UInt8} : (BA a == BA b) = decide (a = b) := by
  rw [bab]
  by_cases h : a = b
  · subst h; simp
  · have : BA a ≠ BA b := fun e => h (by simpa [BA] using e)
    simp [h, this]
theorem Zor {a : D} {xs : List UInt8} (ha : Rd a (byE xs)) (H : List O) : len0 Try.prog 31 a H = some xs.length := by rw [Zk1 Try.underlying31 ha.sl]; simp [byE]
theorem by_ix {a : D} {xs : List UInt8} (ha : Rd a (byE xs)) {i : Nat} {x : UInt8} (hx : xs[i]? = some x) : Zeh Try.prog 31 a (.e (.int .i64 i)) = some (.rptr [.int .u8 (x.toNat : Int)] 0) :=
  Zxc Try.underlying31 sz5 ha.sl (by omega) (by simp [byE, hx]; rfl) rfl (by omega)
theorem Zna {a : D} {xs : List UInt8} (hs : slOf a = some (byE xs)) : Zw6 Try.prog 31 9 a = some (.str (BA xs)) := by
  unfold Zw6
  simp only [Try.underlying31, Try.underlying9]
  cases a with
  | e v =>
    simp only [Try.underlying5, hs, Zun]; rfl
  | osl => simp only [Try.underlying5, hs, Zun]; rfl
  | _ => simp [slOf] at hs
theorem Zez {P : Program} {src dt : TypeId} {a k kk : IntKind} {n : Int} (h1 : P.underlying src = some (.int a)) (h2 : P.underlying dt = some (.int k)) : Zw6 P src dt (.e (.int kk n)) = some (.int k (k.wrap n)) := by
  simp [Zw6, h1, h2]
theorem w31 (d : D) (es : List (List E)) (hd : Rd d es) (hok : (Zi7 es).isSome = true) (hl : es.length ≤ 1073741824) (h : List O) : wc 31 [d] h = some (.val (.osl true false 1 es), h) := by
  refine call_pr ?_
  simp [wpr, hd.ownD, hd.sl, hok, hl]
theorem Zt6 {a b c d : Int} : Zef Try.prog 31 4 [(0, .e (.int .u8 a)), (1, .e (.int .u8 b)), (2, .e (.int .u8 c)), (3, .e (.int .u8 d))] = some (.osl true true 1 [[.int .u8 a], [.int .u8 b], [.int .u8 c], [.int .u8 d]]) := by
  simp [Zef, el31, sz5, Zf3, zo5, Zoj, Zkt, cellsOf, notTup, Zfg, Zpd, Zoy, toEs, toE]
theorem Zug {a : Int} : Zef Try.prog 31 1 [(0, .e (.int .u8 a))] = some (.osl true true 1 [[.int .u8 a]]) := by
  simp [Zef, el31, sz5, Zf3, zo5, Zoj, Zkt, cellsOf, notTup, Zfg, Zpd, Zoy, toEs, toE]
theorem bs31_0 : Zef Try.prog 31 0 [] = some (.osl true true 1 []) := by
  simp [Zef, el31, sz5, Zf3, zo5, Zoj, Zkt, cellsOf, notTup, Zpd, Zoy]
theorem app31 {ex fu : Bool} {es xs : List (List E)} {a : D} (ha : slOf a = some xs) (hok : Zlm 1 xs = true) (hl : es.length + xs.length ≤ 1073741824) : Zfz Try.prog 31 (.osl ex fu 1 es) a false = some (.osl (ex || es.isEmpty) false 1 (es ++ xs)) := by
  unfold Zfz
  rw [el31]
  simp only [sz5, by5, Zf3, zo5]
  cases a with
  | e v =>
    cases v with
    | str => simp [slOf] at ha
    | _ => simp_all [notTup, cellsOf]
  | osl => simp_all [notTup, cellsOf]
  | _ => simp [slOf] at ha
theorem w15 (a b : D) (xs ys : List UInt8) (ha : Rd a (byE xs)) (hb : Rd b (byE ys)) (h : List O) : wc 15 [a, b] h = some (.val (.bool (decide (xs = ys))), h) := by
  have hcv : ∀ i, wcv 15 i = [] := fun _ => rfl
  have hres : Try.f15.results.toList = [ResultVar.tmp 4] := rfl
  rw [wc, Zbm rfl Try.func15 rfl]
  simp only [Zbj, Yap, Yaq, Nat.reduceAdd, Nat.reduceSub, Yae, Yaj, Yar, Zai, Zb2, Za3, Zae, Zan, Za9, ne_eq, reduceCtorEq, not_false_eq_true, implies_true, Ya2, Yas, Yat, Yak, Yal, Zau, Za4, Za0, Za6, Zcs, Za2, Zaf, Zap, Zab, Zax, Zkf, Zk7, Zb3, Zad, Zac, Zal, Zav, Zcq, Zbr, Yaw, Za1 (hcv _), Try.ntmps15, hres, ha.ownD, hb.ownD, Zna ha.sl, Zna hb.sl, BA_inj]
theorem w74 (s : BitVec 32) (b : Bool) (h : List O) : wc 74 [.int .u32 s.toNat, .bool b] h = some (.val (.int .u32 (stp s b).toNat), h) := by
  have hcv : ∀ i, wcv 74 i = [] := fun _ => rfl
  have hres : Try.f74.results.toList = [ResultVar.tmp 4] := rfl
  rw [wc, Zbm rfl Try.func74 rfl]
  cases b
  · simp only [Zbj, Yap, Yaq, Nat.reduceAdd, Nat.reduceSub, Yae, Yaj, Yar, Zai, Zbw, Zb2, Za7, Zao, Za3, Zae, Zan, Za9, ne_eq, reduceCtorEq, not_false_eq_true, implies_true, Ya2, Yas, Yat, Yak, Yal, Zau, Za4, Za0, Za6, Ze0, Za2, Zap, Zab, Zag, Zam, Zj9, Zj8, Zi5, Zgd, Zgj, Zev, Int.reduceLT, Int.reduceToNat, IntKind.bits, Zie, Zhy, Zmq, Zb3, Zad, Zac, Zal, Zav, Zcq, Zbr, and_true, Option.some.injEq, Prod.mk.injEq, Yaw, Za1 (hcv _), Try.ntmps74, hres, Zuq _ 31 (by decide)]
    simp only [wu32, Zhs, shl1, neg32, stp, Yav, if_false, BitVec.add_zero]
    rfl
  · simp only [Zbj, Yap, Yaq, Nat.reduceAdd, Nat.reduceSub, Yae, Yaj, Yar, Zai, Zb2, Za7, Zak, Za3, Zae, Zan, Za9, ne_eq, reduceCtorEq, not_false_eq_true, implies_true, Ya2, Yas, Yat, Yak, Yal, Zau, Za4, Za0, Za6, Ze0, Za2, Zap, Zab, Zag, Zam, Zdc, Zj9, Zj8, Zi5, Zgd, Zgj, Zev, Int.reduceLT, Int.reduceToNat, IntKind.bits, Zcz, Zie, Zhy, Zmq, Zb3, Zad, Zac, Zal, Zav, Zcq, Zbr, and_true, Option.some.injEq, Prod.mk.injEq, Yaw, Za1 (hcv _), Try.ntmps74, hres, Zuq _ 31 (by decide)]
    simp only [wu32, Zhs, shl1, neg32, add1, stp, if_true]
    rfl
def Zlh (s : BitVec 32) : List UInt8 := [.ofBitVec ((s >>> 24).setWidth 8), .ofBitVec ((s >>> 16).setWidth 8), .ofBitVec ((s >>> 8).setWidth 8), .ofBitVec (s.setWidth 8)]
theorem w36 (s : BitVec 32) (h : List O) : wc 36 [.int .u32 s.toNat] h = some (.val (.osl true true 1 (byE (Zlh s))), h) := by
  have hcv : ∀ i, wcv 36 i = [] := fun _ => rfl
  have hres : Try.f36.results.toList = [ResultVar.tmp 2] := rfl
  rw [wc, Zbm rfl Try.func36 rfl]
  simp only [Zbj, Yap, Yaq, Nat.reduceAdd, Nat.reduceSub, Yae, Yaj, Yar, Zai, Zb2, Za3, Zae, Zan, Za9, ne_eq, reduceCtorEq, not_false_eq_true, implies_true, Yav, Ya2, Yas, Yat, Yak, Yal, Zau, Yax, Yay, ↓reduceIte, Za0, Za6, Zcs, Zca, Zaf, Zap, Zab, Zag, Zec, Zdg, Zam, Zcw, Zgd, Zev, Int.reduceLT, Int.reduceToNat, IntKind.bits, Zb3, Zad, Zac, Zal, Zav, Zcq, Zcy, and_true, Option.some.injEq, Prod.mk.injEq, Ybi, Yba, Yb3, Yaw, Za1 (hcv _), Try.ntmps36, hres, Zuq _ 24 (by decide), Zuq _ 16 (by decide), Zuq _ 8 (by decide), Zez Try.underlying28 Try.underlying5, List.zip_cons_cons, List.zip_nil_right, u8_of, Zt6, Zci, taken, Zbi, Zdj, Nat.reduceBEq, Zdd, Zcn, Zfj, Zcg]
  rfl
end Go.Abs
namespace Go.Abs
open Go Go.Proofs
set_option maxRecDepth 10000
set_option maxHeartbeats 4000000
def bitE (x : UInt8) (m : Int) : Bool := IntKind.u8.wrap ((BitVec.ofInt 8 (x.toNat : Int) &&& BitVec.ofInt 8 m).toNat : Int) != 0
def Zmo (x : UInt8) : List Bool := [bitE x 128, bitE x 64, bitE x 32, bitE x 16, bitE x 8, bitE x 4, bitE x 2, bitE x 1]
def Zfr (l : List UInt8) : List Bool := l.flatMap Zmo
theorem m128 : Int.fdiv 128 (2 ^ min 1 8) = 64 := by decide
theorem m64 : Int.fdiv 64 (2 ^ min 1 8) = 32 := by decide
theorem m32 : Int.fdiv 32 (2 ^ min 1 8) = 16 := by decide
theorem m16 : Int.fdiv 16 (2 ^ min 1 8) = 8 := by decide
theorem m8 : Int.fdiv 8 (2 ^ min 1 8) = 4 := by decide
theorem m4 : Int.fdiv 4 (2 ^ min 1 8) = 2 := by decide
theorem m2 : Int.fdiv 2 (2 ^ min 1 8) = 1 := by decide
theorem m1 : Int.fdiv 1 (2 ^ min 1 8) = 0 := by decide
theorem w87 {σ : Type} (H : σ → List O) (L p1 : Nat) (f : σ → Bool → σ) (a : D) (xs : List UInt8) (ha : Rd a (byE xs)) (hx : xs.length ≤ 1000000) (hc1 : ∀ s, Zbn (H s) p1 = some [a])
    (hr : ∀ s b, call Try.prog wpr wcv (.round L) [.bool b] (H s) = some (.val (.bool true), H (f s b))) (hgc : ∀ s s' d, gc (H s).length (H s) (H s') d = H s') (s0 : σ) :
    wc 87 [.func (.yield L) [] [], .ptr p1 0] (H s0) = some (.val Zaw, H ((Zfr (xs ++ [0, 0, 0, 0])).foldl f s0)) := by
  have h31 := w31 a (byE xs) ha (by rw [Zun]; rfl) (by simp [byE]; omega)
  have happ : ∀ (ex : Bool), Zfz Try.prog 31 (.osl true false 1 (byE xs)) (.osl false true 1 [[.int .u8 0], [.int .u8 0], [.int .u8 0], [.int .u8 0]]) false = some (.osl true false 1 (byE (xs ++ [0, 0, 0, 0]))) := by
    intro _
    rw [app31 Zgg (by decide) (by simp [byE]; omega)]
    simp [byE, byR]
  have hlen : ∀ h, len0 Try.prog 31 (.osl true false 1 (byE (xs ++ [0, 0, 0, 0]))) h = some (xs ++ [0, 0, 0, 0]).length := fun h => by rw [Zk1 Try.underlying31 Zgg]; simp [byE]
  generalize hys : xs ++ [0, 0, 0, 0] = ys at happ hlen
  have hyl : ys.length ≤ 1000004 := by rw [← hys]; simp; omega
  have hcv : ∀ i, wcv 87 i = [] := fun _ => rfl
  have hres : Try.f87.results.toList = [] := rfl
  rw [wc, Zbm rfl Try.func87 rfl]
  simp only [Zbj, Yap, Yaq, Nat.reduceAdd, Nat.reduceSub, Yae, Yaj, Yar, Zai, Zc5, Za3, Zae, Zan, Zbd, Zbf, Zbg, Za9, Zbq, Yao, Yam, Yan, Yau, ne_eq, reduceCtorEq, not_false_eq_true, implies_true, Yav, Ya2, Yas, Yat, Yak, Yal, Yax, Yay, ↓reduceIte, Zca, Za2, Zbh, Zab, Zaq, Zah, Zec, Zdg, Zam, Zd0, Ze4, hlen, Za8, Zbt, Ybi, Yba, Option.bind_eq_bind, Zaj, Yb3, Yaw, Option.pure_def, Yab, Try.underlying31, sz31, ag31, Za1 (hcv _), Try.ntmps87, ha.own, ha.ownD, hc1, h31, List.zip_cons_cons, List.zip_nil_right, Zt6, back, Zci, taken, Zbi, Zdj, Nat.reduceBEq, Zdd, Zcn, Zgf, Zfb, Zfj, Zd6, Zcg, Zkk, Zf6, happ true]
  refine Zff (fun (n : Nat) (s : St) => ∃ (i : Nat) (ex : Bool) (q : σ), (i + n = ys.length ∧ (Zfr (ys.drop i)).foldl f q = (Zfr ys).foldl f s0) ∧ ∃ zs_, s = ⟨mkT [some (.func (.yield L) [] []), some (.ptr p1 0), none, none, none, none, none, none, none, some (.osl ex false 1 (byE ys)), some (.int .i64 ys.length), some (.int .i64 i), none, none, none, none, none, none, none, none, none, none, none, none, none, none, none] zs_ 0, [], .no, H q⟩) ?_ (ys.length) ⟨0, true, s0, ⟨by omega, by simp⟩, Zd8 rfl rfl rfl rfl⟩
  rintro n _ ⟨i, ex, q, hf_o, zs_o, rfl⟩ IH_o
  obtain ⟨hn, ht⟩ := hf_o
  by_cases hi : i < ys.length
  rotate_left
  · have e2 : decide ((i : Int) < ys.length) = false := by simp; omega
    have hz : (Zfr ys).foldl f s0 = q := by rw [← ht, List.drop_of_length_le (by omega)]; rfl
    simp only [Nat.reduceAdd, Zai, Zfv, Za7, Zao, Za3, Zeq, Zer, Ze2, Zae, Zan, Za9, ne_eq, reduceCtorEq, not_false_eq_true, implies_true, Ya2, Yas, Yat, Yak, Yal, ↓reduceIte, Za6, Zab, Zc6, Zbs, Zfh, Zad, Zac, Zd9, mkT, Yaw, Za1 (hcv _), hres, e2, hz, hgc]
  have e2 : decide ((i : Int) < ys.length) = true := by simp; omega
  have hxi : ys[i]? = some ys[i] := List.getElem?_eq_getElem hi
  have hd : ys.drop i = ys[i] :: ys.drop (i + 1) := List.drop_eq_getElem_cons hi
  generalize ys[i] = x at hxi hd
  have ia := by_ix (a := .e (.sl (byE ys))) Rd.e hxi
  simp only [Yap, Yaq, Nat.reduceAdd, Zai, Zbw, Zkc, Zhn, Zc5, Zi4, Zic, Za7, Zak, Zao, Za3, Zcd, Zdx, Zji, Zae, Zan, Za9, Zbq, Yan, Yau, ne_eq, reduceCtorEq, not_false_eq_true, implies_true, Yb2, Yav, Ya2, Yas, Yat, Yak, Yal, Zau, Zcp, Yax, Yay, Bool.or_false, ↓reduceIte, Za0, Za6, Ze0, Zbo, Za2, Zaf, Zap, Zab, Zag, Zaq, Zah, Zam, Zdc, Zj9, Zem, Zc6, Zeo, Zgd, Zev, Int.reduceLT, Int.reduceToNat, IntKind.bits, Zcz, Zie, Zdm, Zbs, Zdr, Zf4, mkT, Ze3, Zj0, Zaj, Yb3, Yaw, Yab, sz5, ag5, Za1 (hcv _), e2, ia, back, Zci, taken, Zbi, Zdj, beq_self_eq_true, Nat.reduceBEq, Zgf, Zfb, Zd6, Zi8, Zf6, Zhi, Zod, Zho, Zil, Zmk, Ziq, Zir, Zip, Zhp, hr, Zp7 hi (show ys.length ≤ 1099511627776 by omega), m128, m64, m32, m16, m8, m4, m2, m1, decide_true, decide_false]
  refine IH_o (ys.length - (i + 1)) _ (by omega) ⟨i + 1, false, (Zmo x).foldl f q, ⟨by omega, ?_⟩, Zd8 rfl rfl rfl rfl⟩
  rw [← ht, hd, Zfr, Zfr, List.flatMap_cons, List.foldl_append]
end Go.Abs
namespace Go.Abs
open Go Go.Proofs
set_option maxRecDepth 10000
set_option maxHeartbeats 4000000
theorem w73 (a : D) (xs : List UInt8) (ha : Rd a (byE xs)) (h : List O) : wc 73 [a] h = some (.val (.func (.func 87) [] [.ptr h.length 0]), h ++ [.cells [a]]) := by
  have hcv : ∀ i, wcv 73 i = [] := fun _ => rfl
  have hres : Try.f73.results.toList = [ResultVar.tmp 2] := rfl
  rw [wc, Zbm rfl Try.func73 rfl]
  simp only [Zbj, Yap, Yaq, Nat.reduceSub, Yae, Yaj, Yar, Zai, Zb2, Za3, Zae, Zan, Za9, ne_eq, reduceCtorEq, not_false_eq_true, implies_true, Ya2, Yas, Yat, Yak, Yal, Zb5, Zcp, ↓reduceIte, Za0, Zdq, Zel, Za2, Zaf, Zap, Zec, Zdg, Zdi, Zb3, Zad, Zac, Zal, Zav, Option.some.injEq, Prod.mk.injEq, true_and, Yaw, Za1 (hcv _), Try.ntmps73, hres, ha.ownD, ha.cells, ha.notTup]
  rw [Zu8]
  simp [Zrt, Zvy]
def sumC (s : BitVec 32) : O := .cells [.int .u32 (s.toNat : Int)]
theorem Zpr {H : List O} {i : Nat} {o : O} (h : H[i]? = some o) : H.set i o = H := by
  apply List.ext_getElem?
  intro j
  by_cases e : i = j
  · subst e; rw [List.getElem?_set_self (List.getElem?_eq_some_iff.1 h).1, h]
  · rw [List.getElem?_set_ne e]
theorem w87b (H : List O) (L p1 i0 : Nat) (s0 : BitVec 32) (a : D) (xs : List UInt8) (ha : Rd a (byE xs)) (hx : xs.length ≤ 1000000) (h0 : H[i0]? = some (sumC s0)) (hi : i0 ≠ p1) (hc1 : Zbn H p1 = some [a])
    (hr : ∀ s b, call Try.prog wpr wcv (.round L) [.bool b] (H.set i0 (sumC s)) = some (.val (.bool true), H.set i0 (sumC (stp s b)))) :
    call Try.prog wpr wcv (.fn 87) [.func (.yield L) [] [], .ptr p1 0] H = some (.val Zaw, H.set i0 (sumC ((Zfr (xs ++ [0, 0, 0, 0])).foldl stp s0))) := by
  have := w87 (fun s => H.set i0 (sumC s)) L p1 stp a xs ha hx (fun s => by unfold Zbn at hc1 ⊢; rw [List.getElem?_set_ne hi]; exact hc1) hr (fun s s' d => Ze6 (by simp)) s0
  rw [Zpr h0] at this
  exact this
def crc (xs : List UInt8) : BitVec 32 := (Zfr (xs ++ [0, 0, 0, 0])).foldl stp 4294967295#32
theorem w37 (a : D) (xs : List UInt8) (ha : Rd a (byE xs)) (hx : xs.length ≤ 1000000) (h : List O) : wc 37 [a] h = some (.val (.int .u32 (crc xs).toNat), h) := by
  have h73 := w73 a xs ha
  have hcv : ∀ i, wcv 37 i = [] := fun _ => rfl
  have hres : Try.f37.results.toList = [ResultVar.tmp 2] := rfl
  rw [wc, Zbm rfl Try.func37 rfl]
  simp only [Zbj, Yap, Yaq, Nat.reduceSub, Yae, Yaj, Yar, Zai, Zc5, Za3, Zae, Zan, Zbf, Zbg, Za9, Zcf, Zbq, Yau, ne_eq, reduceCtorEq, not_false_eq_true, implies_true, Ya2, Yas, Yat, Yak, Yal, ↓reduceIte, Za4, Za0, Zd4, Zbb, Za2, Zap, Zab, Zaq, Zah, Zam, and_self, List.append_nil, Zar, Zbk, Zet, hlen, Zin, Za8, Zb1, Zc9, Zcl, Zco, List.take_zero, List.drop_succ_cons, List.drop_zero, Yaw, Yab, sz28, Za1 (hcv _), Try.ntmps37, ha.ownD, zo28, h73]
  rw [Zl7 rfl rfl rfl]
  simp only [Yap, Yaq, Nat.reduceAdd, Yaj, Yar, hlen, Ybi, Yba, Yaw, List.append_assoc, Zif, shrT_e, Zl1, Zjl, Znm ha]
  refine Zn7 (P := Try.prog) (pr := wpr) (cv := wcv) (w87b _ _ _ h.length 4294967295#32 a xs ha hx (by simp [sumC]) (by omega) (by simp [Zbn]) ?_) ?_
  · intro s b
    rw [Zet]
    refine (Zit (hgetn.trans rfl) rfl).trans ?_
    simp only [Zae, Zan, Za9, ne_eq, reduceCtorEq, not_false_eq_true, implies_true, Ya2, Yas, Yat, Yak, Yal, Zau, Za0, Za2, Ybl, Zet, Za1 (hcv _), List.zip_cons_cons, List.zip_nil_right, List.foldl_cons]
    rw [Zjr (hgetn.trans rfl)]
    simp only [Yap, Yaq, Yar, Zc5, Zcd, Zae, Zan, Zbf, Zbg, Za9, Zcf, Zbq, Yan, Yau, ne_eq, reduceCtorEq, not_false_eq_true, implies_true, Yav, Ya2, Yas, Yat, Yak, Yal, Zau, Zb7, ↓reduceIte, Za4, Zbb, Za2, Zab, Zaq, Zah, and_self, List.append_nil, Zar, Zbk, Zet, Zdh, Za8, Zb1, Zc9, Zcl, Zbt, Zco, List.take_zero, List.drop_succ_cons, List.drop_zero, Zaj, Yaw, Yab, sz28, ag28, Za1 (hcv _), sumC, w74]
    rw [Zk8 (hgetn.trans rfl)]
    simp only [Yas, Yat, Zdh]
  · rw [Zet, Zkl (n := h.length + 2) (by simp) (hgetn.trans rfl) (by simp)]
    simp only [Zai, Za3, Zcd, Zan, Yau, ne_eq, reduceCtorEq, not_false_eq_true, implies_true, Yas, Yat, Yak, Yal, Zab, Zdh, Ybi, Yba, Zaj, Za1 (hcv _)]
    rw [Zn9 (n := h.length + 2) (h := h) (l := [_, _]) rfl (.tup [] (by simp)) ?_]
    rotate_left
    · exact ⟨.inr (.cells _ (by simp [Zbr])), .inl rfl, trivial⟩
    simp only [Yap, Yaq, Nat.reduceAdd, Zb2, Za3, Zae, Zan, Za9, Yan, ne_eq, reduceCtorEq, not_false_eq_true, implies_true, Yav, Ya2, Yas, Yat, Yak, Yal, Zau, Zb7, ↓reduceIte, Za0, Za2, Zb3, Zad, Zac, Zal, Zav, Zbr, and_true, Option.some.injEq, Prod.mk.injEq, Zar, Zbk, Za8, Zbt, Zb4, List.take_succ_cons, List.take_zero, Yaw, Yab, sz28, ag28, hres, Zj1, kep_e, Zmb, Zkd, Zqb ha, sumC]
    rfl
end Go.Abs
namespace Go.Abs
open Go Go.Proofs
set_option maxRecDepth 10000
set_option maxHeartbeats 4000000
def hdr4 (n : Nat) : List UInt8 := [71, 1, UInt8.ofNat (n / 256), UInt8.ofNat n]
def Zg7 (xs : List UInt8) : List UInt8 := (hdr4 xs.length ++ xs) ++ Zlh (crc (hdr4 xs.length ++ xs))
theorem u8_div (n : Nat) : IntKind.u8.wrap ((n : Int).fdiv (2 ^ min 8 64)) = ((UInt8.ofNat (n / 256)).toNat : Int) := by
  have e : (2 : Int) ^ min 8 64 = 256 := by decide
  rw [IntKind.wrap_u8, e, Int.fdiv_eq_ediv_of_nonneg _ (by decide)]
  simp
theorem Zr3 (n : Nat) : IntKind.u8.wrap (n : Int) = ((UInt8.ofNat n).toNat : Int) := by
  rw [IntKind.wrap_u8]; simp
theorem Zr1 {xs ys : List UInt8} : byE xs ++ byE ys = byE (xs ++ ys) := by simp [byE]
theorem Zk6 {xs : List UInt8} : (byE xs).length = xs.length := by simp [byE]
theorem Zxs {ex fu : Bool} {es xs : List (List E)} {a : D} (hne : es.isEmpty = false) (ha : slOf a = some xs) (hok : Zlm 1 xs = true) (hl : es.length + xs.length ≤ 1073741824) : Zfz Try.prog 31 (.osl ex fu 1 es) a false = some (.osl ex false 1 (es ++ xs)) := by
  rw [app31 ha hok hl, hne, Bool.or_false]
theorem hdr_byE (n : Nat) : [[E.int .u8 71], [E.int .u8 1], [E.int .u8 ((UInt8.ofNat (n / 256)).toNat : Int)], [E.int .u8 ((UInt8.ofNat n).toNat : Int)]] = byE (hdr4 n) := rfl
theorem size_z {n : Nat} : (sizeZ (n : Int) == 0) = !decide (n ≤ 112) := by
  unfold sizeZ
  by_cases h : n ≤ 112
  · have h1 : decide ((n : Int) ≤ 112) = true := by simp; omega
    have h2 : decide (0 ≤ (n : Int)) = true := by simp
    rw [h1, h2, Zft (by omega) (by omega)]
    simp [h]; omega
  · have h1 : decide ((n : Int) ≤ 112) = false := by simp; omega
    rw [h1]; simp [h]
theorem w19 (a : D) (xs : List UInt8) (ha : Rd a (byE xs)) (hx : xs.length ≤ 100000) (h : List O) : wc 19 [a] h = some (.val (if xs.length ≤ 112 then .tup [.osl false false 1 (byE (Zg7 xs)), .int .i64 0] else .tup [.osl false true 0 [], .int .i64 2]), h) := by
  have la := Zor ha
  have hcv0 : wcv 19 0 = [] := rfl
  have hcv1 : wcv 19 1 = [] := rfl
  have hcv2 : wcv 19 2 = [] := rfl
  have hcv3 : wcv 19 3 = [] := rfl
  have hcv4 : wcv 19 4 = [] := rfl
  have hcv5 : wcv 19 5 = [.kp 5] := rfl
  have hres : Try.f19.results.toList = [ResultVar.tmp 2, ResultVar.tmp 3] := rfl
  rw [wc, Zbm rfl Try.func19 rfl]
  simp only [Zbj, Yap, Yaq, Nat.reduceSub, Yae, Yaj, Yar, Zai, Za7, Za3, Zae, Zan, Zbd, Zbf, Zbg, Za9, Zbq, Yao, Yan, Yau, ne_eq, reduceCtorEq, not_false_eq_true, implies_true, Ya2, Yas, Yat, Yak, Yal, Zau, Za4, Za0, Za6, Za2, Zap, Zab, Zag, Zaq, Zah, Zam, Zcw, Zb6, Zay, Zd0, Zdn, Ybl, Option.bind_eq_bind, Yaw, Option.pure_def, Zdb, hcv0, hcv1, hcv2, Try.ntmps19, ha.ownD, la, w35, size_z]
  by_cases hs : xs.length ≤ 112
  rotate_left
  · have e1 : decide (xs.length ≤ 112) = false := by simp [hs]
    simp only [Zai, Zb2, Zak, Za3, Zc0, Zae, Zan, Za9, ne_eq, reduceCtorEq, not_false_eq_true, implies_true, Ybg, Ya2, Yas, Yat, Yak, Yal, Zau, Zdv, ↓reduceIte, Za0, Za2, Zap, Zam, Zcw, Zb3, Zad, Zac, Zal, Zd2, Zcq, Zbr, Zcy, Zcx, Yb9, Ybb, false_imp_iff, and_self, Zdn, Ybl, Zdb, hcv3, hres, hs, decide_false]
  have e1 : decide (xs.length ≤ 112) = true := by simp [hs]
  have h1 : Zfz Try.prog 31 (.osl true true 1 (byE (hdr4 xs.length))) a false = some (.osl true false 1 (byE (hdr4 xs.length ++ xs))) := by
    rw [Zxs rfl ha.sl (Zq6 _) (by simp [Zk6, hdr4]; omega), Zr1]
  have h37 := w37 (.e (.sl (byE (hdr4 xs.length ++ xs)))) (hdr4 xs.length ++ xs) Rd.e (by simp [hdr4]; omega)
  have h2 : Zfz Try.prog 31 (.osl false false 1 (byE (hdr4 xs.length ++ xs))) (.osl false true 1 (byE (Zlh (crc (hdr4 xs.length ++ xs))))) false = some (.osl false false 1 (byE (Zg7 xs))) := by
    rw [Zxs rfl Zgg (Zq6 _) (by simp [Zk6, hdr4, Zlh]; omega), Zr1]; rfl
  simp only [Zai, Zbw, Zao, Za3, Zae, Zan, Zbd, Zbf, Zbg, Za9, Yao, Yam, Yan, ne_eq, reduceCtorEq, not_false_eq_true, implies_true, Yb2, Yav, Ya2, Yas, Yat, Yak, Yal, Zau, Yax, Yay, Bool.or_false, ↓reduceIte, Za0, Za6, Zcs, Zca, Za2, Zaf, Zbh, Zab, Zag, Zaq, Zah, Zec, Zdg, Zam, Zgd, Zev, Int.reduceLT, Int.reduceToNat, IntKind.bits, Ze4, Zdn, Ybl, Zct, Ybi, Yba, Yb3, Bool.and_true, Bool.or_true, Try.underlying31, Zdb, List.foldl_cons, cv1_kp, hcv4, hcv5, hs, decide_true, ha.ownD, Zez Try.underlying3 Try.underlying5, u8_div, Zr3, List.zip_cons_cons, List.zip_nil_right, Zt6, hdr_byE, Zci, taken, Zbi, Zdj, beq_self_eq_true, Nat.reduceBEq, Zdd, Zcn, Zfj, Zd6, Zcg, Zj5, Zf6, h1]
  simp only [Zb2, Za3, Zae, Zan, Zbd, Zbf, Zbg, Za9, Zbq, Yao, Yam, Yan, ne_eq, reduceCtorEq, not_false_eq_true, implies_true, Ya2, Yas, Yat, Yak, Yal, Zau, Za0, Za2, Zap, Zaq, Zah, Zam, Ze4, Zb3, Zad, Zac, Zal, Zd2, Zcq, Zbr, Zcy, Zcx, Yb9, Ybb, false_imp_iff, and_self, Try.underlying31, hres, Zdd, Zcn, Zgf, Zfb, Zfj, Zd6, Zj5, Zkk, Zf6, h37, w36, h2]
theorem Zl9 {a : D} {xs : List UInt8} (ha : Rd a (byE xs)) {lo hi : Option D} {l h : Nat} (hh : bndO hi xs.length xs.length = some h) (hl : bndO lo 0 h = some l) : Zkv Try.prog 31 a lo hi none = some (.e (.sl (byE ((xs.take h).drop l)))) := by
  rw [slice_of (h := h) (l := l) Try.underlying31 sz5 ha.sl (Zq6 xs) (by omega) (by rw [Zk6]; exact hh) hl]
  simp [byE, List.map_take, List.map_drop]
theorem Zku {k : IntKind} {i y : Nat} (h : i ≤ y) : bnd (.e (.int k (i : Int))) y = some i := by rw [bnd_int (by omega) (by omega)]; simp
theorem Zmc {a : D} {xs : List UInt8} (ha : Rd a (byE xs)) (hl : xs.length ≤ 1073741824) (h : List O) : wc 31 [a] h = some (.val (.osl true false 1 (byE xs)), h) := w31 a _ ha (by rw [Zun]; rfl) (by rw [Zk6]; exact hl) h
theorem w41o (a : D) (xs ys : List UInt8) (ha : Rd a (byE xs)) (h : List O) : wc 41 [a, .osl true true 1 (byE ys)] h = some (.val (.bool (decide (xs = ys))), h) := by
  have hcv : ∀ i, wcv 41 i = [] := fun _ => rfl
  have hres : Try.f41.results.toList = [ResultVar.tmp 4] := rfl
  rw [wc, Zbm rfl Try.func41 rfl]
  simp only [Zbj, Yap, Yaq, Nat.reduceAdd, Nat.reduceSub, Yae, Yaj, Yar, Zai, Zb2, Za3, Zae, Zan, Za9, ne_eq, reduceCtorEq, not_false_eq_true, implies_true, Yav, Ya2, Yas, Yat, Yak, Yal, Zau, Zdv, Yax, Yay, ↓reduceIte, Za0, Za6, Zcs, Za2, Zaf, Zap, Zab, Zax, Zkf, Zk7, Zb3, Zad, Zac, Zal, Zav, Zcq, Zbr, Yb3, Yaw, Za1 (hcv _), Try.ntmps41, hres, ha.ownD, Zna ha.sl, Zna (a := .osl false true 1 (byE ys)) Zgg, BA_inj, Zci, taken, Zbi, Zdj, Nat.reduceBEq, Zgf, Zfb, Zfj, Zkk, Zf6]
def Zh6 (xs : List UInt8) (k : Nat) : Bool := decide (k ≤ 112) && (decide (xs.take 4 = hdr4 k) && decide (xs.drop (4 + k) = Zlh (crc (xs.take (4 + k)))))
theorem Zwe (a : D) (xs : List UInt8) (ha : Rd a (byE xs)) (hx : xs.length < 8) (h : List O) : wc 24 [a] h = some (.val (.tup [.osl false true 0 [], .int .i64 11]), h) := by
  have la := Zor ha
  have hw : IntKind.i64.wrap ((xs.length : Int) - 8) = (xs.length : Int) - 8 := Zft (by omega) (by omega)
  have e1 : decide ((xs.length : Int) - 8 < 0) = true := by simp; omega
  have hcv : ∀ i, wcv 24 i = [] := fun _ => rfl
  have hres : Try.f24.results.toList = [ResultVar.tmp 2, ResultVar.tmp 3] := rfl
  rw [wc, Zbm rfl Try.func24 rfl]
  simp only [Zbj, Yap, Yaq, Nat.reduceSub, Yae, Yaj, Yar, Zai, Zb2, Zc5, Za7, Zak, Za3, Zc0, Zd3, Zae, Zan, Zbd, Za9, Yao, Yan, Yau, ne_eq, reduceCtorEq, not_false_eq_true, implies_true, Ya2, Yas, Yat, Yak, Yal, Zau, Zdv, Za4, Za0, Za6, Za2, Zap, Zab, Zag, Zam, Zcw, Zgn, Zc6, Zg1, Zbs, Zd0, Zb3, Zad, Zac, Zal, Zd2, Zcq, Zbr, Zcy, Zcx, Yb9, Ybb, false_imp_iff, and_self, Option.bind_eq_bind, Yaw, Option.pure_def, Za1 (hcv _), Try.ntmps24, hres, ha.ownD, la, hw, e1]
theorem w24 (a : D) (xs : List UInt8) (ha : Rd a (byE xs)) (k : Nat) (hk : xs.length = k + 8) (hx : xs.length ≤ 100000) (h : List O) : wc 24 [a] h =
    some (.val (if Zh6 xs k then .tup [.osl true false 1 (byE ((xs.take (4 + k)).drop 4)), .int .i64 0] else .tup [.osl false true 0 [], .int .i64 12]), h) := by
  have la := Zor ha
  have hw : IntKind.i64.wrap ((xs.length : Int) - 8) = (k : Int) := by rw [Zft (by omega) (by omega)]; omega
  have hw4 : IntKind.i64.wrap (4 + (k : Int)) = ((4 + k : Nat) : Int) := by rw [Zft (by omega) (by omega)]; omega
  have e1 : decide ((k : Int) < 0) = false := by simp
  have s1 : Zkv Try.prog 31 a none (some (.e (.int .i64 4))) none = some (.e (.sl (byE (xs.take 4)))) := by
    rw [Zl9 (h := 4) (l := 0) ha (by rw [bndO, show (4 : Int) = ((4 : Nat) : Int) by rfl, Zku (by omega)]) rfl]; simp
  have s2 : Zkv Try.prog 31 a (some (.e (.int .i64 ((4 + k : Nat) : Int)))) none none = some (.e (.sl (byE (xs.drop (4 + k))))) := by
    rw [Zl9 (h := xs.length) (l := 4 + k) ha rfl (by rw [bndO, Zku (by omega)])]; simp
  have s3 : Zkv Try.prog 31 a none (some (.e (.int .i64 ((4 + k : Nat) : Int)))) none = some (.e (.sl (byE (xs.take (4 + k))))) := by
    rw [Zl9 (h := 4 + k) (l := 0) ha (by rw [bndO, Zku (by omega)]) rfl]; simp
  have s4 : Zkv Try.prog 31 a (some (.e (.int .i64 4))) (some (.e (.int .i64 ((4 + k : Nat) : Int)))) none = some (.e (.sl (byE ((xs.take (4 + k)).drop 4)))) := by
    rw [Zl9 (h := 4 + k) (l := 4) ha (by rw [bndO, Zku (by omega)]) (by rw [bndO, show (4 : Int) = ((4 : Nat) : Int) by rfl, Zku (by omega)])]
  have q1 := w41o (.e (.sl (byE (xs.take 4)))) (xs.take 4) (hdr4 k) Rd.e
  have q2 := w37 (.e (.sl (byE (xs.take (4 + k))))) (xs.take (4 + k)) Rd.e (by simp; omega)
  have q3 := w41o (.e (.sl (byE (xs.drop (4 + k))))) (xs.drop (4 + k)) (Zlh (crc (xs.take (4 + k)))) Rd.e
  have q4 := Zmc (a := .e (.sl (byE ((xs.take (4 + k)).drop 4)))) (xs := (xs.take (4 + k)).drop 4) Rd.e (by simp; omega)
  have hcv : ∀ i, wcv 24 i = [] := fun _ => rfl
  have hres : Try.f24.results.toList = [ResultVar.tmp 2, ResultVar.tmp 3] := rfl
  rw [wc, Zbm rfl Try.func24 rfl]
  simp only [Zbj, Yap, Yaq, Nat.reduceSub, Yae, Yaj, Yar, Zai, Zc5, Za7, Zao, Za3, Zae, Zan, Zbd, Za9, Yao, Yan, Yau, ne_eq, reduceCtorEq, not_false_eq_true, implies_true, Ya2, Yas, Yat, Yak, Yal, Zau, Za4, Za0, Za6, Za2, Zap, Zab, Zag, Zam, Zcw, Zgn, Zc6, Zg1, Zbs, Zd0, Option.bind_eq_bind, Yaw, Option.pure_def, Za1 (hcv _), Try.ntmps24, ha.ownD, la, hw, e1]
  refine (Zed (l := Zv6) (by exact Zyh)).trans ?_
  simp only [Yap, Yaq, Nat.reduceAdd, Yao, Yam, Yan, Yau, Nat.reduceLT, ne_eq, reduceCtorEq, not_false_eq_true, implies_true, Ya2, Yas, Yat, Yak, Yal, Zau, Ze5, Yax, Yay, ↓reduceIte, Za6, Za2, Zab, Zag, Zaq, Zah, Zam, Zb6, Zay, Ybj, Option.some.injEq, kd_l, Zc3, Zc2, Zc7, Zbc, Zbv, Zaz, Zd1, Zcv, Zby, Zbx, Zdz, Zgk, Op.operands, Zdn, Ybl, Yb3, Yaw, hcv, kd_h, Zbz, Zsr, Zcj, Zck, Zdp, Zdf, Zc1, Zce, Ybk, Ybm, Zv6, ha.ownD, w35, size_z]
  by_cases h1 : k ≤ 112
  rotate_left
  · have e2 : decide (k ≤ 112) = false := by simp [h1]
    simp only [Yap, Yaq, Nat.reduceAdd, Zai, Zb2, Za7, Zak, Za3, Zc0, Zd3, Zae, Zan, Za9, St.put, Yao, Yam, Yan, Yau, Nat.reduceLT, ne_eq, reduceCtorEq, not_false_eq_true, implies_true, Ybg, Yav, Ya2, Yas, Yat, Yak, Yal, Zau, Ze5, Zdv, Yax, Yay, ↓reduceIte, Za0, Zat, Za2, Zap, Zbh, Zab, Zam, Zax, Zcw, Zb3, Zad, Zac, Zal, Zd2, Zcq, Zbr, Zcy, Zcx, Yb9, Ybb, false_imp_iff, and_self, Ybj, Option.some.injEq, Zdy, kd_l, Zc3, Zc2, Zd1, Zcv, Zby, Zbx, Zdz, Zi1, Op.operands, Yb3, Bool.false_and, Yaw, Za1 (hcv _), hres, kd_h, Zbz, Zsr, Zvs, Znz, Zss, Zes, Zdf, Zc1, Zce, Ybk, Ybm, Zh6, h1, decide_false]
  have e2 : decide (k ≤ 112) = true := by simp [h1]
  simp only [Yap, Yaq, Nat.reduceAdd, Yaj, Yar, Yao, Yam, Yan, Yau, Nat.reduceLT, not_false_eq_true, Yb2, Yav, Ya2, Yas, Yat, Yak, Yal, Zau, Yax, Yay, ↓reduceIte, Za6, Ze0, Zcs, Zat, Zca, Zgt, Za2, Zaf, Zbh, Zab, Zag, Zaq, Zah, Zec, Zdg, Zam, Zgr, Zgq, Zgd, Zev, Int.reduceLT, Int.reduceToNat, IntKind.bits, Zf4, Ybj, Option.some.injEq, kd_l, Zc3, Zc2, Zd1, Zcv, Zby, Zbx, Zdz, Zi1, Zgv, Zgk, Zma, Zhz, Zkb, Op.operands, Array.toList_append, List.append_nil, Ybi, Yba, Yb3, Yaw, kd_h, Zbz, Zsr, Zqc, Znz, Zoc, Zcj, Zck, Zdp, Zdf, Zc1, Zce, Ybk, Ybm, Option.toArray_none, Option.toArray_some, Zdd, Zcn, Zfj, Zcg, h1, decide_true, ha.ownD, s1, Zez Try.underlying3 Try.underlying5, u8_div, Zr3, List.zip_cons_cons, List.zip_nil_right, Zt6, hdr_byE, q1]
  by_cases h2 : xs.take 4 = hdr4 k
  rotate_left
  · have e3 : decide (xs.take 4 = hdr4 k) = false := by simp [h2]
    simp only [Yap, Yaq, Nat.reduceAdd, Zai, Zb2, Za7, Zak, Za3, Zc0, Zd3, Zae, Zan, Za9, St.put, Yao, Yam, Yan, Yau, Nat.reduceLT, ne_eq, reduceCtorEq, not_false_eq_true, implies_true, Ybg, Yav, Ya2, Yas, Yat, Yak, Yal, Zau, Zdv, Yax, Yay, ↓reduceIte, Za0, Zat, Za2, Zap, Zbh, Zab, Zam, Zax, Zcw, Zb3, Zad, Zac, Zal, Zd2, Zcq, Zbr, Zcy, Zcx, Yb9, Ybb, false_imp_iff, and_self, Ybj, Option.some.injEq, Zdy, kd_l, Zc3, Zc2, Zcv, Zby, Zbx, Zdz, Zi1, Op.operands, Yb3, Bool.and_false, Bool.false_and, Yaw, Za1 (hcv _), hres, kd_h, Zbz, Zsr, Zvs, Znz, Zss, Zes, Zdf, Zc1, Zce, Ybk, Ybm, Zd7, e3, Zh6, e2]
  have e3 : decide (xs.take 4 = hdr4 k) = true := by simp [h2]
  simp only [Yap, Yaq, Nat.reduceAdd, Yaj, Yar, Za7, Za3, Yao, Yam, Yan, Yau, Nat.reduceLT, ne_eq, reduceCtorEq, not_false_eq_true, implies_true, Yb2, Ybg, Yav, Ya2, Yas, Yat, Yak, Yal, Zau, Yax, Yay, Bool.not_eq_true', ↓reduceIte, Za0, Za6, Ze0, Zat, Zgt, Za2, Zaf, Zab, Zag, Zaq, Zah, Zam, Zgr, Zgq, Zdc, Zcz, Zf4, Ybj, Option.some.injEq, Zdy, kd_l, Zc3, Zc2, Zd1, Zcv, Zby, Zbx, Zdz, Zi1, Zgk, Zma, Zkb, Op.operands, Array.toList_append, List.append_nil, Yb3, Bool.and_true, Bool.true_and, Yaw, kd_h, Zbz, Zsr, Zqc, Znz, Zoc, Zcj, Zck, Zes, Zdp, Zdf, Zc1, Zce, excD_e, List.all_cons, Ybk, Ybm, Option.toArray_none, Option.toArray_some, Zdd, Zcn, Zfj, Zcg, e3, ha.ownD, hw4, s2, s3, q2, w36, q3]
  by_cases h3 : xs.drop (4 + k) = Zlh (crc (xs.take (4 + k)))
  rotate_left
  · have e4 : decide (xs.drop (4 + k) = Zlh (crc (xs.take (4 + k)))) = false := by simp [h3]
    simp only [Zai, Zb2, Zak, Za3, Zc0, Zd3, Zae, Zan, Za9, ne_eq, reduceCtorEq, not_false_eq_true, implies_true, Ybg, Yav, Ya2, Yas, Yat, Yak, Yal, Zau, Zdv, ↓reduceIte, Za0, Za2, Zap, Zam, Zcw, Zb3, Zad, Zac, Zal, Zd2, Zcq, Zbr, Zcy, Zcx, Yb9, Ybb, false_imp_iff, and_self, Bool.and_false, Za1 (hcv _), hres, e4, Zh6, e2, e3, ha.excD]
  have e4 : decide (xs.drop (4 + k) = Zlh (crc (xs.take (4 + k)))) = true := by simp [h3]
  simp only [Zai, Zbw, Zb2, Zao, Za3, Zcd, Zae, Zan, Zbf, Zbg, Za9, Zbq, ne_eq, reduceCtorEq, not_false_eq_true, implies_true, Yb2, Yav, Ya2, Yas, Yat, Yak, Yal, Zau, Yax, Yay, ↓reduceIte, Za0, Za6, Zgt, Za2, Zaf, Zap, Zab, Zag, Zaq, Zah, Zam, Zgr, Zgq, Zdc, Zcz, Zb3, Zad, Zac, Zal, Zd2, Zcq, Zbr, Zcy, Zcx, Yb9, Ybb, false_imp_iff, and_self, Yb3, Za1 (hcv _), hres, Ybm, Zci, taken, Zbi, Zdj, Nat.reduceBEq, Zdd, Zcn, Zd6, Zcg, e4, ha.ownD, ha.excD, hw4, s4, q4, Zh6, e2, e3]
end Go.Abs
namespace Go.Abs
open Go Go.Proofs
set_option maxRecDepth 10000
set_option maxHeartbeats 4000000
def bD (l : List UInt8) : List D := l.map fun b => .int .u8 (b.toNat : Int)
theorem bD_len {l : List UInt8} : (bD l).length = l.length := by simp [bD]
theorem bD_get {l : List UInt8} {i : Nat} {b : UInt8} (h : l[i]? = some b) : (bD l)[i]? = some (.int .u8 (b.toNat : Int)) := by simp [bD, h]
theorem bD_put {l : List UInt8} {i : Nat} {b : UInt8} (h : i < l.length) : List.take i (bD l) ++ [D.e (.int .u8 (b.toNat : Int))] ++ List.drop (i + 1) (bD l) = bD (l.set i b) := by
  rw [List.set_eq_take_append_cons_drop, if_pos h]
  simp [bD, List.map_take, List.map_drop]
theorem bD_set_len {l : List UInt8} {i : Nat} {b : UInt8} : (l.set i b).length = l.length := List.length_set
theorem excD_asl {i o n : Nat} : excD (.asl i o n) = false := of_decide_eq_true rfl
theorem ix_asl {k i n : Nat} (h : i < n) : Zeh Try.prog 31 (.asl k 0 n) (.e (.int .i64 (i : Int))) = some (.ptr k i) := by
  unfold Zeh
  rw [Try.underlying31]
  simp only [sz5]
  rw [if_pos ⟨by omega, by omega, by omega⟩]
  simp
def Swp (l cur : List UInt8) (i : Nat) : Prop := cur.length = l.length ∧ ∀ k, k < l.length → cur[k]? = if k < i ∨ l.length - i ≤ k then l[l.length - 1 - k]? else l[k]?
theorem w81 (h ex : List O) (l : List UInt8) (hl : 0 < l.length) (hx : l.length ≤ 100000) : wc 81 [.asl h.length 0 l.length] (h ++ .cells (bD l) :: ex) = some (.val Zaw, h ++ .cells (bD l.reverse) :: ex) := by
  have hw : IntKind.i64.wrap ((l.length : Int) - 1) = ((l.length - 1 : Nat) : Int) := by rw [Zft (by omega) (by omega)]; omega
  have hcv : ∀ i, wcv 81 i = [] := fun _ => rfl
  have hres : Try.f81.results.toList = [] := rfl
  rw [wc, Zbm rfl Try.func81 rfl]
  simp only [Zbj, Yap, Yaq, Nat.reduceSub, Yae, Yaj, Yar, Zai, Zc5, Za3, Zae, Zan, Zbd, Za9, Yao, Yan, Yau, ne_eq, reduceCtorEq, not_false_eq_true, implies_true, Ya2, Yas, Yat, Yak, Yal, Zau, Zkq, Za4, Za0, Za6, Za2, Zap, Zab, Zag, Zam, Zgn, Zg1, Zd0, Option.bind_eq_bind, Yaw, Option.pure_def, Za1 (hcv _), Try.ntmps81, len0_asl Try.underlying31, hw]
  refine Zff (fun (n : Nat) (s : St) => ∃ (i : Nat) (j : Nat) (cur : List UInt8), (i + n = l.length ∧ i + j + 1 = l.length ∧ Swp l cur i) ∧ ∃ zs_, s = ⟨mkT [some (.asl h.length 0 l.length), none, some (.int .i64 i), some (.int .i64 j), none, none, none, none, none, none, none, none, none, none, none, none, none, none, none, none, none, none, none, none, none, none, none, none] zs_ 0, [], .no, h ++ .cells (bD cur) :: ex⟩) ?_ (l.length) ⟨0, l.length - 1, l, ⟨by omega, by omega, rfl, fun k hk => by simp; omega⟩, Zd8 rfl rfl rfl rfl⟩
  rintro n _ ⟨i, j, cur, hf_o, zs_o, rfl⟩ IH_o
  obtain ⟨hn, hij, hcl, hc⟩ := hf_o
  by_cases hi : i < j
  rotate_left
  · have e2 : decide ((i : Int) < (j : Int)) = false := by simp; omega
    have hz : cur = l.reverse := by
      apply List.ext_getElem?
      intro k
      by_cases hk : k < l.length
      · rw [hc k hk, List.getElem?_reverse hk]
        split
        · rfl
        · have : k = l.length - 1 - k := by omega
          rw [← this]
      · rw [List.getElem?_eq_none (by omega), List.getElem?_eq_none (by simp; omega)]
    simp only [Yap, Nat.reduceAdd, Zai, Zfv, Za7, Zao, Za3, Zeq, Zer, Ze2, Zae, Zan, Za9, ne_eq, reduceCtorEq, not_false_eq_true, implies_true, Ya2, Yas, Yat, Yak, Yal, Zau, ↓reduceIte, Za4, Za6, Zab, Zc6, Zbs, Zfh, Zad, Zac, Zd9, mkT, hlen, Yaw, Za1 (hcv _), hres, e2, hz, Ze6]
  have e2 : decide ((i : Int) < (j : Int)) = true := by simp; omega
  have hxi : cur[i]? = some (cur[i]'(by omega)) := List.getElem?_eq_getElem (by omega)
  have hxj : cur[j]? = some (cur[j]'(by omega)) := List.getElem?_eq_getElem (by omega)
  generalize cur[i]'(by omega) = x at hxi
  generalize cur[j]'(by omega) = y at hxj
  have hwj : IntKind.i64.wrap ((j : Int) - 1) = ((j - 1 : Nat) : Int) := by rw [Zft (by omega) (by omega)]; omega
  simp only [Nat.reduceAdd, Zai, Zbw, Zc5, Za7, Zak, Za3, Zae, Zan, Za9, ne_eq, reduceCtorEq, not_false_eq_true, implies_true, Ya2, Yas, Yat, Yak, Yal, Zau, Za4, Za6, Zab, Zc6, Zbs, mkT, Yaw, Za1 (hcv _), e2]
  refine (Zed (l := Zv1) (by exact Zyc)).trans ?_
  simp only [Yap, Yaq, Za3, Zcd, Zdx, Zae, Zan, Za9, Yao, Yam, Yan, Yau, ne_eq, reduceCtorEq, not_false_eq_true, implies_true, Ybg, Bool.true_eq_false, Yav, Ya2, Yas, Yat, Yak, Yal, Zau, Zkq, Yax, Yay, ↓reduceIte, Za4, Za0, Za6, Zbb, Zbo, Za2, Zaf, Zab, Zag, Zam, Zdc, Zgn, Zcz, Zg1, false_imp_iff, and_self, Ybj, Option.some.injEq, Zdy, kd_l, Zc3, Zc2, kd_r, Zc4, Zdo, Zc7, Zbc, Zbv, Zaz, Zd1, Zcv, Zcb, Zcu, Zby, Zbx, Zg9, Op.operands, Zg6, Zfm, Zdn, Ybl, Zar, Zbk, Zet, Za8, Zb1, Zc9, Zcl, Zco, Yb3, Yaw, sz5, ag5, Za1 (hcv _), hcv, kd_h, Zbz, Zes, Zgm, Zc1, Zce, Zcc, excD_e, List.all_cons, Ybk, Ybm, Zv1, ix_asl (show i < l.length by omega), ix_asl (show j < l.length by omega), bD_len, hcl, bD_get hxi, bD_get hxj, excD_asl, show Nat.testBit 8179 11 = true by decide, show Nat.testBit 8179 7 = true by decide, show Nat.testBit 32767 11 = true by decide, show Nat.testBit 32767 7 = true by decide, Zp7 (show i < l.length by omega) (by omega), hwj, show i + 1 ≤ l.length by omega, show j + 1 ≤ l.length by omega, bD_put (show i < cur.length by omega), bD_set_len, bD_put (show j < (cur.set i y).length by simp; omega), bD_get (show (cur.set i y)[j]? = some y by rw [List.getElem?_set_ne (by omega)]; exact hxj)]
  refine IH_o (l.length - (i + 1)) _ (by omega) ⟨i + 1, j - 1, (cur.set i y).set j x, ⟨by omega, by omega, by simp [hcl], fun k hk => ?_⟩, Zd8 rfl rfl rfl rfl⟩
  by_cases hkj : k = j
  · subst hkj
    rw [List.getElem?_set_self (by simp; omega), if_pos (.inr (by omega))]
    have := hc i (by omega)
    rw [hxi, if_neg (by omega)] at this
    rw [this]; congr 1; omega
  · rw [List.getElem?_set_ne (by omega)]
    by_cases hki : k = i
    · subst hki
      rw [List.getElem?_set_self (by omega), if_pos (.inl (by omega))]
      have := hc j (by omega)
      rw [hxj, if_neg (by omega)] at this
      rw [this]; congr 1; omega
    · rw [List.getElem?_set_ne (by omega), hc k hk]
      by_cases h1 : k < i ∨ l.length - i ≤ k
      · rw [if_pos h1, if_pos (by omega)]
      · rw [if_neg h1, if_neg (by omega)]
end Go.Abs
namespace Go.Abs
open Go Go.Proofs
set_option maxRecDepth 10000
set_option maxHeartbeats 4000000
theorem w80 (n : Int) (h : List O) : wc 80 [.int .i64 n] h = some (.val (.func (.func 90) [] [.ptr h.length 0]), h ++ [.cells [.int .i64 n]]) := by
  have hcv : ∀ i, wcv 80 i = [] := fun _ => rfl
  have hres : Try.f80.results.toList = [ResultVar.tmp 2] := rfl
  rw [wc, Zbm rfl Try.func80 rfl]
  simp only [Zbj, Yap, Yaq, Nat.reduceSub, Yae, Yaj, Yar, Zai, Zb2, Za3, Zae, Zan, Za9, ne_eq, reduceCtorEq, not_false_eq_true, implies_true, Ya2, Yas, Yat, Yak, Yal, Zau, Zb5, Zcp, ↓reduceIte, Za0, Zdq, Zel, Za2, Zaf, Zap, Zec, Zdg, Zdi, Zb3, Zad, Zac, Zal, Zav, Option.some.injEq, Prod.mk.injEq, true_and, Zc9, Zcl, Yaw, Za1 (hcv _), Try.ntmps80, hres]
  rw [Zu8]
  simp [Zrt, Zvy]
def digs (n : Nat) : List UInt8 := if h : 0 < n then UInt8.ofNat n :: digs (n / 256) else []
  termination_by n
  decreasing_by omega
theorem shr8n (n : Nat) : (n : Int).fdiv (2 ^ min 8 64) = ((n / 256 : Nat) : Int) := by
  rw [show (2 : Int) ^ min 8 64 = 256 by decide, Int.fdiv_eq_ediv_of_nonneg _ (by decide)]; rfl
theorem w90 {σ : Type} (K : σ → Nat → Prop) (H : σ → Nat → List O) (L p1 : Nat) (f : σ → UInt8 → σ) (n0 : Nat) (hn0 : n0 ≤ 1099511627776)
    (hc1 : ∀ s n, Zbn (H s n) p1 = some [.int .i64 (n : Int)]) (hset : ∀ s n m, (H s n).set p1 (.cells [.int .i64 ((m : Nat) : Int)]) = H s m)
    (hK : ∀ s n, 0 < n → K s n → K (f s (UInt8.ofNat n)) (n / 256)) (hr : ∀ s n b, 0 < n → K s n → call Try.prog wpr wcv (.round L) [.int .u8 (UInt8.toNat b : Int)] (H s n) = some (.val (.bool true), H (f s b) n)) (hgc : ∀ s n s' n' d, gc (H s n).length (H s n) (H s' n') d = H s' n') (s0 : σ) (hk0 : K s0 n0) :
    wc 90 [.func (.yield L) [] [], .ptr p1 0] (H s0 n0) = some (.val Zaw, H ((digs n0).foldl f s0) 0) := by
  have hcv : ∀ i, wcv 90 i = [] := fun _ => rfl
  have hres : Try.f90.results.toList = [] := rfl
  rw [wc, Zbm rfl Try.func90 rfl]
  simp only [Zbj, Yap, Yaq, Nat.reduceAdd, Nat.reduceSub, Yae, Yaj, Yar, Zc5, Yaw, Try.ntmps90]
  refine Zff (fun (n : Nat) (s : St) => ∃ (q : σ) (m : Nat), (m < n ∧ m ≤ n0 ∧ K q m ∧ (digs m).foldl f q = (digs n0).foldl f s0) ∧ ∃ zs_, s = ⟨mkT [some (.func (.yield L) [] []), some (.ptr p1 0), none, none, none, none, none, none, none, none, none, none] zs_ 0, [], .no, H q m⟩) ?_ (n0 + 1) ⟨s0, n0, ⟨by omega, by omega, hk0, rfl⟩, Zd8 rfl rfl rfl rfl⟩
  rintro n _ ⟨q, m, hf_o, zs_o, rfl⟩ IH_o
  obtain ⟨h1, h2, hk, ht⟩ := hf_o
  by_cases hm : 0 < m
  rotate_left
  · have e2 : decide (0 < (m : Int)) = false := by simp; omega
    have hz : m = 0 := by omega
    subst hz
    have hq : (digs n0).foldl f s0 = q := by rw [← ht, digs]; rfl
    simp only [Yap, Yaq, Nat.reduceAdd, Zai, Zfv, Za7, Zao, Za3, Zeq, Zer, Ze2, Zae, Zan, Za9, Yan, Yau, ne_eq, reduceCtorEq, not_false_eq_true, implies_true, Yav, Ya2, Yas, Yat, Yak, Yal, Zb7, ↓reduceIte, Za6, Zab, Zag, Zam, Zeo, Zdr, Zfh, Zad, Zac, Zd9, mkT, Za8, Zbt, Zaj, Yaw, Yab, sz3, ag3, Za1 (hcv _), hres, e2, hc1, hq, hgc]
  have e2 : decide (0 < (m : Int)) = true := by simp; omega
  simp only [Yap, Yaq, Nat.reduceAdd, Yar, Zai, Zbw, Zc5, Za7, Zak, Zao, Za3, Zcd, Zdx, Zae, Zan, Za9, Zcf, Zbq, Yan, Yau, ne_eq, reduceCtorEq, not_false_eq_true, implies_true, Yb2, Yav, Ya2, Yas, Yat, Yak, Yal, Zau, Zcp, Zb7, ↓reduceIte, Za4, Za6, Ze0, Zcs, Zbb, Za2, Zaf, Zab, Zag, Zaq, Zah, Zam, Zeo, Zgd, Zev, Int.reduceLT, Int.reduceToNat, IntKind.bits, Zdr, Zf4, and_self, mkT, List.append_nil, Za8, Zb1, Zc9, Zcl, Zbt, Zco, List.take_zero, List.drop_succ_cons, List.drop_zero, Zaj, Yaw, Yab, sz3, ag3, Za1 (hcv _), e2, hc1, Zez Try.underlying3 Try.underlying5, Zr3, Zhi, Zod, hr q m _ hm hk, hset, shr8n]
  refine IH_o (m) _ (by omega) ⟨f q (UInt8.ofNat m), m / 256, ⟨by omega, by omega, hK q m hm hk, ?_⟩, Zd8 rfl rfl rfl rfl⟩
  rw [← ht, digs.eq_def m, dif_pos hm, List.foldl_cons]
end Go.Abs
