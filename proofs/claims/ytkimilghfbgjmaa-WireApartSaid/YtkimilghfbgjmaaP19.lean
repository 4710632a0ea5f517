/-
  WIRE: bytes. WIRE: the bits of bytes, the sum. WIRE: the sum. WIRE: frame.Close, frame.Open. WIRE: slices.Reverse, in place. WIRE: numbers' bytes. No condition.
-/
import Derived.Test.YtkimilghfbgjmaaP18
import Derived.Laws.Strings2

namespace Go.Abs
open Go Go.Proofs
set_option maxRecDepth 10000
set_option maxHeartbeats 4000000

theorem wu32 (x : Int) : IntKind.u32.wrap x = ((BitVec.ofInt 32 x).toNat : Int) := by
  rw [BitVec.toNat_ofInt]
  simp only [IntKind.wrap, IntKind.bits, IntKind.signed]
  simp
  omega
theorem ofInt_toNat {w : Nat} (v : BitVec w) : BitVec.ofInt w (v.toNat : Int) = v := by
  apply BitVec.eq_of_toNat_eq
  rw [BitVec.toNat_ofInt]
  have := v.isLt
  have h2 : ((v.toNat : Int) % ((2 ^ w : Nat) : Int)) = v.toNat := Int.emod_eq_of_lt (by omega) (by exact_mod_cast this)
  rw [h2]; simp
def stp (s : BitVec 32) (b : Bool) : BitVec 32 := ((s <<< 1) + (if b then 1#32 else 0#32)) ^^^ ((-(s >>> 31)) &&& 1947962583#32)
theorem shl1 (s : BitVec 32) : BitVec.ofInt 32 ((s.toNat : Int) * 2 ^ min 1 32) = s <<< 1 := by
  apply BitVec.eq_of_toNat_eq
  rw [BitVec.toNat_ofInt, BitVec.toNat_shiftLeft]
  simp [Nat.shiftLeft_eq]
  omega
theorem shr32 (s : BitVec 32) (k : Nat) (hk : k ≤ 32) : ((s.toNat : Int).fdiv (2 ^ min k 32)) = ((s >>> k).toNat : Int) := by
  rw [BitVec.toNat_ushiftRight, Nat.shiftRight_eq_div_pow, Nat.min_eq_left hk]
  rw [Int.fdiv_eq_ediv_of_nonneg _ (Int.le_of_lt (Int.pow_pos (by decide)))]
  norm_cast
theorem neg32 (s : BitVec 32) : BitVec.ofInt 32 (0 - (s.toNat : Int)) = -s := by
  apply BitVec.eq_of_toNat_eq
  rw [BitVec.toNat_ofInt, BitVec.toNat_neg]
  have := s.isLt
  simp
  omega
theorem add1 (s : BitVec 32) : BitVec.ofInt 32 ((s.toNat : Int) + 1) = s + 1#32 := by
  apply BitVec.eq_of_toNat_eq
  rw [BitVec.toNat_ofInt, BitVec.toNat_add]
  have := s.isLt
  simp
  omega

theorem u8_of (v : BitVec 32) : IntKind.u8.wrap (v.toNat : Int) = ((UInt8.ofBitVec (v.setWidth 8)).toNat : Int) := by
  rw [IntKind.wrap_u8]
  simp [← UInt8.toNat_toBitVec]

/-- Rows of bytes. -/
def byR (b : UInt8) : List E := [.int .u8 (b.toNat : Int)]
def byE (l : List UInt8) : List (List E) := l.map byR
def BA (l : List UInt8) : ByteArray := ⟨l.toArray⟩
theorem toB_byE (l : List UInt8) : Zhp (byE l) = some l := by
  induction l with
  | nil => rfl
  | cons b l ih =>
    have : toByte (byR b) = some b := by simp [toByte, byR]
    simp only [byE, List.map_cons, Zhp, this] at ih ⊢
    rw [ih]
theorem ok_byE (l : List UInt8) : okRows 1 (byE l) = true := by simp [okRows, byE, byR]
theorem BA_inj {a b : List UInt8} : (BA a == BA b) = decide (a = b) := by
  rw [bab]
  by_cases h : a = b
  · subst h; simp
  · have : BA a ≠ BA b := fun e => h (by simpa [BA] using e)
    simp [h, this]
theorem by_len {a : D} {xs : List UInt8} (ha : Rd a (byE xs)) (H : List O) : len0 Try.prog 31 a H = some xs.length := by rw [len0_of Try.underlying31 ha.sl]; simp [byE]
theorem by_ix {a : D} {xs : List UInt8} (ha : Rd a (byE xs)) {i : Nat} {x : UInt8} (hx : xs[i]? = some x) : Zdr Try.prog 31 a (.e (.int .i64 i)) = some (.rptr [.int .u8 (x.toNat : Int)] 0) :=
  ix_of Try.underlying31 sz5 ha.sl (by omega) (by simp [byE, hx]; rfl) rfl (by omega)
theorem conv_str {a : D} {xs : List UInt8} (hs : slOf a = some (byE xs)) : convD Try.prog 31 9 a = some (.str (BA xs)) := by
  unfold convD
  simp only [Try.underlying31, Try.underlying9]
  cases a with
  | e v =>
    simp only [Try.underlying5, hs, toB_byE]; rfl
  | osl => simp only [Try.underlying5, hs, toB_byE]; rfl
  | _ => simp [slOf] at hs
theorem Zey {P : Program} {src dt : TypeId} {a k kk : IntKind} {n : Int} (h1 : P.underlying src = some (.int a)) (h2 : P.underlying dt = some (.int k)) : convD P src dt (.e (.int kk n)) = some (.int k (k.wrap n)) := by
  simp [convD, h1, h2]
/-- bytes.Clone. -/
theorem w31 (d : D) (es : List (List E)) (hd : Rd d es) (hok : (Zhp es).isSome = true) (hl : es.length ≤ 1073741824) (h : List O) : wc 31 [d] h = some (.val (.osl true false 1 es), h) := by
  refine call_pr ?_
  simp [wpr, hd.ownD, hd.sl, hok, hl]
theorem bs31_4 {a b c d : Int} : Ze9 Try.prog 31 4 [(0, .e (.int .u8 a)), (1, .e (.int .u8 b)), (2, .e (.int .u8 c)), (3, .e (.int .u8 d))] = some (.osl true true 1 [[.int .u8 a], [.int .u8 b], [.int .u8 c], [.int .u8 d]]) := by
  simp [Ze9, el31, sz5, Zed, zo5, replD, fillD, cellsOf, notTup, Zeq, chunk, rowsE, toEs, toE]
theorem bs31_1 {a : Int} : Ze9 Try.prog 31 1 [(0, .e (.int .u8 a))] = some (.osl true true 1 [[.int .u8 a]]) := by
  simp [Ze9, el31, sz5, Zed, zo5, replD, fillD, cellsOf, notTup, Zeq, chunk, rowsE, toEs, toE]
theorem bs31_0 : Ze9 Try.prog 31 0 [] = some (.osl true true 1 []) := by
  simp [Ze9, el31, sz5, Zed, zo5, replD, fillD, cellsOf, notTup, chunk, rowsE]
/-- Bytes behind own bytes. -/
theorem app31 {ex fu : Bool} {es xs : List (List E)} {a : D} (ha : slOf a = some xs) (hok : okRows 1 xs = true) (hl : es.length + xs.length ≤ 1073741824) : Zfi Try.prog 31 (.osl ex fu 1 es) a false = some (.osl (ex || es.isEmpty) false 1 (es ++ xs)) := by
  unfold Zfi
  rw [el31]
  simp only [sz5, by5, Zed, zo5]
  cases a with
  | e v =>
    cases v with
    | str => simp [slOf] at ha
    | _ => simp_all [notTup, cellsOf]
  | osl => simp_all [notTup, cellsOf]
  | _ => simp [slOf] at ha

theorem w15 (a b : D) (xs ys : List UInt8) (ha : Rd a (byE xs)) (hb : Rd b (byE ys)) (h : List O) : wc 15 [a, b] h = some (.val (.bool (decide (xs = ys))), h) := by
  have hcv : ∀ i, wcv 15 i = [] := fun _ => rfl
  have hres : Try.f15.results.toList = [ResultVar.tmp 4] := rfl
  rw [wc, Zbt rfl Try.func15 rfl]
  simp only [Zbi, List.length_cons, List.length_nil, Nat.reduceAdd, Nat.reduceSub, List.replicate, List.cons_append, List.nil_append, Zaj, Zaz, Za3, Zae, Zao, Za9, ne_eq, reduceCtorEq, not_false_eq_true, implies_true, Option.map_some, List.set_cons_succ, List.set_cons_zero, List.getD_cons_succ, List.getD_cons_zero, Zau, Za2, Za0, Za6, Zck, Za4, Zaf, Zaq, Zac, Zax, binS_eql, strD_eql, Zb0, Zab, Zaa, Zah, Zat, Zcn, Zbm, Nat.zero_add, Za1 (hcv _), Try.ntmps15, hres, ha.ownD, hb.ownD, conv_str ha.sl, conv_str hb.sl, BA_inj]
theorem w74 (s : BitVec 32) (b : Bool) (h : List O) : wc 74 [.int .u32 s.toNat, .bool b] h = some (.val (.int .u32 (stp s b).toNat), h) := by
  have hcv : ∀ i, wcv 74 i = [] := fun _ => rfl
  have hres : Try.f74.results.toList = [ResultVar.tmp 4] := rfl
  rw [wc, Zbt rfl Try.func74 rfl]
  cases b
  · simp only [Zbi, List.length_cons, List.length_nil, Nat.reduceAdd, Nat.reduceSub, List.replicate, List.cons_append, List.nil_append, Zaj, Zbz, Zaz, Za7, Zar, Za3, Zae, Zao, Za9, ne_eq, reduceCtorEq, not_false_eq_true, implies_true, Option.map_some, List.set_cons_succ, List.set_cons_zero, List.getD_cons_succ, List.getD_cons_zero, Zau, Za2, Za0, Za6, Zdn, Za4, Zaq, Zac, Zai, Zan, binD_and, binD_xor, binD_shl, Zh4, Zhi, Zfj, Int.reduceLT, Int.reduceToNat, IntKind.bits, Zhw, Zif, unD_neg, Zb0, Zab, Zaa, Zah, Zat, Zcn, Zbm, and_true, Option.some.injEq, Prod.mk.injEq, Nat.zero_add, Za1 (hcv _), Try.ntmps74, hres, shr32 _ 31 (by decide)]
    simp only [wu32, ofInt_toNat, shl1, neg32, stp, Bool.false_eq_true, if_false, BitVec.add_zero]
    rfl
  · simp only [Zbi, List.length_cons, List.length_nil, Nat.reduceAdd, Nat.reduceSub, List.replicate, List.cons_append, List.nil_append, Zaj, Zaz, Za7, Zal, Za3, Zae, Zao, Za9, ne_eq, reduceCtorEq, not_false_eq_true, implies_true, Option.map_some, List.set_cons_succ, List.set_cons_zero, List.getD_cons_succ, List.getD_cons_zero, Zau, Za2, Za0, Za6, Zdn, Za4, Zaq, Zac, Zai, Zan, Zdf, binD_and, binD_xor, binD_shl, Zh4, Zhi, Zfj, Int.reduceLT, Int.reduceToNat, IntKind.bits, Zcv, Zhw, Zif, unD_neg, Zb0, Zab, Zaa, Zah, Zat, Zcn, Zbm, and_true, Option.some.injEq, Prod.mk.injEq, Nat.zero_add, Za1 (hcv _), Try.ntmps74, hres, shr32 _ 31 (by decide)]
    simp only [wu32, ofInt_toNat, shl1, neg32, add1, stp, if_true]
    rfl
/-- Four bytes, the highest first. -/
def tail4 (s : BitVec 32) : List UInt8 := [.ofBitVec ((s >>> 24).setWidth 8), .ofBitVec ((s >>> 16).setWidth 8), .ofBitVec ((s >>> 8).setWidth 8), .ofBitVec (s.setWidth 8)]
theorem w36 (s : BitVec 32) (h : List O) : wc 36 [.int .u32 s.toNat] h = some (.val (.osl true true 1 (byE (tail4 s))), h) := by
  have hcv : ∀ i, wcv 36 i = [] := fun _ => rfl
  have hres : Try.f36.results.toList = [ResultVar.tmp 2] := rfl
  rw [wc, Zbt rfl Try.func36 rfl]
  simp only [Zbi, List.length_cons, List.length_nil, Nat.reduceAdd, Nat.reduceSub, List.replicate, List.cons_append, List.nil_append, Zaj, Zaz, Za3, Zae, Zao, Za9, ne_eq, reduceCtorEq, not_false_eq_true, implies_true, Bool.false_eq_true, Option.map_some, List.set_cons_succ, List.set_cons_zero, List.getD_cons_succ, List.getD_cons_zero, Zau, List.any_cons, List.any_nil, ↓reduceIte, Za0, Za6, Zck, Zby, Zaf, Zaq, Zac, Zai, Ze7, Zd9, Zan, Zcj, Zh4, Zfj, Int.reduceLT, Int.reduceToNat, IntKind.bits, Zb0, Zab, Zaa, Zah, Zat, Zcn, Zcx, and_true, Option.some.injEq, Prod.mk.injEq, List.map_cons, List.map_nil, Bool.or_self, Nat.zero_add, Za1 (hcv _), Try.ntmps36, hres, shr32 _ 24 (by decide), shr32 _ 16 (by decide), shr32 _ 8 (by decide), Zey Try.underlying28 Try.underlying5, List.zip_cons_cons, List.zip_nil_right, u8_of, bs31_4, Zcp, taken, Zbj, Zdo, Nat.reduceBEq, Zdb, Zcg, Zev, Zc1]
  rfl

end Go.Abs

namespace Go.Abs
open Go Go.Proofs
set_option maxRecDepth 10000
set_option maxHeartbeats 4000000

def bitE (x : UInt8) (m : Int) : Bool := IntKind.u8.wrap ((BitVec.ofInt 8 (x.toNat : Int) &&& BitVec.ofInt 8 m).toNat : Int) != 0
def bits8 (x : UInt8) : List Bool := [bitE x 128, bitE x 64, bitE x 32, bitE x 16, bitE x 8, bitE x 4, bitE x 2, bitE x 1]
def Zf1 (l : List UInt8) : List Bool := l.flatMap bits8
theorem m128 : Int.fdiv 128 (2 ^ min 1 8) = 64 := by decide
theorem m64 : Int.fdiv 64 (2 ^ min 1 8) = 32 := by decide
theorem m32 : Int.fdiv 32 (2 ^ min 1 8) = 16 := by decide
theorem m16 : Int.fdiv 16 (2 ^ min 1 8) = 8 := by decide
theorem m8 : Int.fdiv 8 (2 ^ min 1 8) = 4 := by decide
theorem m4 : Int.fdiv 4 (2 ^ min 1 8) = 2 := by decide
theorem m2 : Int.fdiv 2 (2 ^ min 1 8) = 1 := by decide
theorem m1 : Int.fdiv 1 (2 ^ min 1 8) = 0 := by decide

theorem w87 {σ : Type} (H : σ → List O) (L p1 : Nat) (f : σ → Bool → σ) (a : D) (xs : List UInt8) (ha : Rd a (byE xs)) (hx : xs.length ≤ 1000000) (hc1 : ∀ s, Zbp (H s) p1 = some [a])
    (hr : ∀ s b, call Try.prog wpr wcv (.round L) [.bool b] (H s) = some (.val (.bool true), H (f s b))) (hgc : ∀ s s' d, gc (H s).length (H s) (H s') d = H s') (s0 : σ) :
    wc 87 [.func (.yield L) [] [], .ptr p1 0] (H s0) = some (.val Zav, H ((Zf1 (xs ++ [0, 0, 0, 0])).foldl f s0)) := by
  have h31 := w31 a (byE xs) ha (by rw [toB_byE]; rfl) (by simp [byE]; omega)
  have happ : ∀ (ex : Bool), Zfi Try.prog 31 (.osl true false 1 (byE xs)) (.osl false true 1 [[.int .u8 0], [.int .u8 0], [.int .u8 0], [.int .u8 0]]) false = some (.osl true false 1 (byE (xs ++ [0, 0, 0, 0]))) := by
    intro _
    rw [app31 Zg0 (by decide) (by simp [byE]; omega)]
    simp [byE, byR]
  have hlen : ∀ h, len0 Try.prog 31 (.osl true false 1 (byE (xs ++ [0, 0, 0, 0]))) h = some (xs ++ [0, 0, 0, 0]).length := fun h => by rw [len0_of Try.underlying31 Zg0]; simp [byE]
  generalize hys : xs ++ [0, 0, 0, 0] = ys at happ hlen
  have hyl : ys.length ≤ 1000004 := by rw [← hys]; simp; omega
  have hcv : ∀ i, wcv 87 i = [] := fun _ => rfl
  have hres : Try.f87.results.toList = [] := rfl
  rw [wc, Zbt rfl Try.func87 rfl]
  simp only [Zbi, List.length_cons, List.length_nil, Nat.reduceAdd, Nat.reduceSub, List.replicate, List.cons_append, List.nil_append, Zaj, Zc3, Za3, Zae, Zao, Zbb, Zbe, Zbf, Za9, Zbq, List.getElem?_toArray, List.getElem?_cons_succ, List.getElem?_cons_zero, Option.bind_some, ne_eq, reduceCtorEq, not_false_eq_true, implies_true, Bool.false_eq_true, Option.map_some, List.set_cons_succ, List.set_cons_zero, List.getD_cons_succ, List.getD_cons_zero, List.any_cons, List.any_nil, ↓reduceIte, Zby, Za4, Zb7, Zac, Zaw, Zap, Ze7, Zd9, Zan, Zd0, Zdi, hlen, Zad, Zbs, List.map_cons, List.map_nil, Option.bind_eq_bind, Zag, Bool.or_self, Nat.zero_add, Option.pure_def, Nat.le_refl, Try.underlying31, sz31, ag31, Za1 (hcv _), Try.ntmps87, ha.own, ha.ownD, hc1, h31, List.zip_cons_cons, List.zip_nil_right, bs31_4, back, Zcp, taken, Zbj, Zdo, Nat.reduceBEq, Zdb, Zcg, Zgo, Zf7, Zev, Zd1, Zc1, shr_fu, Zf2, happ true]
  refine Zfd (fun (n : Nat) (s : St) => ∃ (i : Nat) (ex : Bool) (q : σ), (i + n = ys.length ∧ (Zf1 (ys.drop i)).foldl f q = (Zf1 ys).foldl f s0) ∧ ∃ zs_, s = ⟨mkT [some (.func (.yield L) [] []), some (.ptr p1 0), none, none, none, none, none, none, none, some (.osl ex false 1 (byE ys)), some (.int .i64 ys.length), some (.int .i64 i), none, none, none, none, none, none, none, none, none, none, none, none, none, none, none] zs_ 0, [], .no, H q⟩) ?_ (ys.length) ⟨0, true, s0, ⟨by omega, by simp⟩, Zd7 rfl rfl rfl rfl⟩
  rintro n _ ⟨i, ex, q, hf_o, zs_o, rfl⟩ IH_o
  obtain ⟨hn, ht⟩ := hf_o
  by_cases hi : i < ys.length
  rotate_left
  · have e2 : decide ((i : Int) < ys.length) = false := by simp; omega
    have hz : (Zf1 ys).foldl f s0 = q := by rw [← ht, List.drop_of_length_le (by omega)]; rfl
    simp only [Nat.reduceAdd, Zaj, Zfe, Za7, Zar, Za3, Zeg, Zeh, Zdu, Zae, Zao, Za9, ne_eq, reduceCtorEq, not_false_eq_true, implies_true, Option.map_some, List.set_cons_succ, List.set_cons_zero, List.getD_cons_succ, List.getD_cons_zero, ↓reduceIte, Za6, Zac, Zc2, Zbv, Zer, Zab, Zaa, Zcr, mkT, Nat.zero_add, Za1 (hcv _), hres, e2, hz, hgc]
  have e2 : decide ((i : Int) < ys.length) = true := by simp; omega
  have hxi : ys[i]? = some ys[i] := List.getElem?_eq_getElem hi
  have hd : ys.drop i = ys[i] :: ys.drop (i + 1) := List.drop_eq_getElem_cons hi
  generalize ys[i] = x at hxi hd
  have ia := by_ix (a := .e (.sl (byE ys))) Rd.e hxi
  simp only [List.length_cons, List.length_nil, Nat.reduceAdd, Zaj, Zbz, kx_label, Zh6, Zc3, Zhm, Zht, Za7, Zal, Zar, Za3, Zc8, Ze8, Ziv, Zae, Zao, Za9, Zbq, List.getElem?_cons_zero, Option.bind_some, ne_eq, reduceCtorEq, not_false_eq_true, implies_true, Bool.not_true, Bool.false_eq_true, Option.map_some, List.set_cons_succ, List.set_cons_zero, List.getD_cons_succ, List.getD_cons_zero, Zau, Zda, List.any_cons, List.any_nil, Bool.or_false, ↓reduceIte, Za0, Za6, Zdn, Zbl, Za4, Zaf, Zaq, Zac, Zai, Zaw, Zap, Zan, Zdf, binD_and, Zel, Zc2, Zf6, Zh4, Zfj, Int.reduceLT, Int.reduceToNat, IntKind.bits, Zcv, Zhw, Ze0, Zbv, Zei, Zes, mkT, Zdh, Zim, Zag, Bool.or_self, Nat.zero_add, Nat.le_refl, sz5, ag5, Za1 (hcv _), e2, ia, back, Zcp, taken, Zbj, Zdo, beq_self_eq_true, Nat.reduceBEq, Zgo, Zf7, Zd1, shr_nf, Zf2, ko_val, kY_yield, Zh7, Zi0, fl_seq, Zi4, Zi5, Zi3, Zh9, hr, inc64 hi (show ys.length ≤ 1099511627776 by omega), m128, m64, m32, m16, m8, m4, m2, m1, decide_true, decide_false]
  refine IH_o (ys.length - (i + 1)) _ (by omega) ⟨i + 1, false, (bits8 x).foldl f q, ⟨by omega, ?_⟩, Zd7 rfl rfl rfl rfl⟩
  rw [← ht, hd, Zf1, Zf1, List.flatMap_cons, List.foldl_append]

end Go.Abs

namespace Go.Abs
open Go Go.Proofs
set_option maxRecDepth 10000
set_option maxHeartbeats 4000000

theorem w73 (a : D) (xs : List UInt8) (ha : Rd a (byE xs)) (h : List O) : wc 73 [a] h = some (.val (.func (.func 87) [] [.ptr h.length 0]), h ++ [.cells [a]]) := by
  have hcv : ∀ i, wcv 73 i = [] := fun _ => rfl
  have hres : Try.f73.results.toList = [ResultVar.tmp 2] := rfl
  rw [wc, Zbt rfl Try.func73 rfl]
  simp only [Zbi, List.length_cons, List.length_nil, Nat.reduceSub, List.replicate, List.cons_append, List.nil_append, Zaj, Zaz, Za3, Zae, Zao, Za9, ne_eq, reduceCtorEq, not_false_eq_true, implies_true, Option.map_some, List.set_cons_succ, List.set_cons_zero, List.getD_cons_succ, List.getD_cons_zero, Zbk, Zda, ↓reduceIte, Za0, Zd2, Zec, Za4, Zaf, Zaq, Ze7, Zd9, Zdt, Zb0, Zab, Zaa, Zah, Zat, Option.some.injEq, Prod.mk.injEq, true_and, Nat.zero_add, Za1 (hcv _), Try.ntmps73, hres, ha.ownD, ha.cells, ha.notTup]
  rw [gc_not]
  simp [fit_func, fit_ptr]

def sumC (s : BitVec 32) : O := .cells [.int .u32 (s.toNat : Int)]
theorem set_self' {H : List O} {i : Nat} {o : O} (h : H[i]? = some o) : H.set i o = H := by
  apply List.ext_getElem?
  intro j
  by_cases e : i = j
  · subst e; rw [List.getElem?_set_self (List.getElem?_eq_some_iff.1 h).1, h]
  · rw [List.getElem?_set_ne e]
theorem w87b (H : List O) (L p1 i0 : Nat) (s0 : BitVec 32) (a : D) (xs : List UInt8) (ha : Rd a (byE xs)) (hx : xs.length ≤ 1000000) (h0 : H[i0]? = some (sumC s0)) (hi : i0 ≠ p1) (hc1 : Zbp H p1 = some [a])
    (hr : ∀ s b, call Try.prog wpr wcv (.round L) [.bool b] (H.set i0 (sumC s)) = some (.val (.bool true), H.set i0 (sumC (stp s b)))) :
    call Try.prog wpr wcv (.fn 87) [.func (.yield L) [] [], .ptr p1 0] H = some (.val Zav, H.set i0 (sumC ((Zf1 (xs ++ [0, 0, 0, 0])).foldl stp s0))) := by
  have := w87 (fun s => H.set i0 (sumC s)) L p1 stp a xs ha hx (fun s => by unfold Zbp at hc1 ⊢; rw [List.getElem?_set_ne hi]; exact hc1) hr (fun s s' d => Zf0 (by simp)) s0
  rw [set_self' h0] at this
  exact this
/-- The sum of bytes, by frame.Sum. -/
def crc (xs : List UInt8) : BitVec 32 := (Zf1 (xs ++ [0, 0, 0, 0])).foldl stp 4294967295#32

theorem w37 (a : D) (xs : List UInt8) (ha : Rd a (byE xs)) (hx : xs.length ≤ 1000000) (h : List O) : wc 37 [a] h = some (.val (.int .u32 (crc xs).toNat), h) := by
  have h73 := w73 a xs ha
  have hcv : ∀ i, wcv 37 i = [] := fun _ => rfl
  have hres : Try.f37.results.toList = [ResultVar.tmp 2] := rfl
  rw [wc, Zbt rfl Try.func37 rfl]
  simp only [Zbi, List.length_cons, List.length_nil, Nat.reduceSub, List.replicate, List.cons_append, List.nil_append, Zaj, Zc3, Za3, Zae, Zao, Zbe, Zbf, Za9, Zce, Zbq, Option.bind_some, ne_eq, reduceCtorEq, not_false_eq_true, implies_true, Option.map_some, List.set_cons_succ, List.set_cons_zero, List.getD_cons_succ, List.getD_cons_zero, ↓reduceIte, Za2, Za0, Zdz, Zbc, Za4, Zaq, Zac, Zaw, Zap, Zan, and_self, List.append_nil, Zas, Zbg, Zeu, hlen, Zi9, Zad, Zb4, Zc9, Zco, Zcq, List.take_zero, List.drop_succ_cons, List.drop_zero, Nat.zero_add, Nat.le_refl, sz28, Za1 (hcv _), Try.ntmps37, ha.ownD, zo28, h73]
  rw [kx_range rfl rfl rfl]
  simp only [List.length_cons, List.length_nil, Nat.reduceAdd, List.cons_append, List.nil_append, hlen, List.map_cons, List.map_nil, Nat.zero_add, List.append_assoc, shrT_undef, shrT_e, shrT_ptr, shrT_func, shrT_rd ha]
  refine kRng_of (P := Try.prog) (pr := wpr) (cv := wcv) (w87b _ _ _ h.length 4294967295#32 a xs ha hx (by simp [sumC]) (by omega) (by simp [Zbp]) ?_) ?_
  · intro s b
    rw [Zeu]
    refine (call_round (hgetn.trans rfl) rfl).trans ?_
    simp only [Zae, Zao, Za9, ne_eq, reduceCtorEq, not_false_eq_true, implies_true, Option.map_some, List.set_cons_succ, List.set_cons_zero, List.getD_cons_succ, List.getD_cons_zero, Zau, Za0, Za4, List.foldl_nil, Zeu, Za1 (hcv _), List.zip_cons_cons, List.zip_nil_right, List.foldl_cons]
    rw [kBody_nrm (hgetn.trans rfl)]
    simp only [List.length_cons, List.length_nil, List.nil_append, Zc3, Zc8, Zae, Zao, Zbe, Zbf, Za9, Zce, Zbq, List.getElem?_cons_zero, Option.bind_some, ne_eq, reduceCtorEq, not_false_eq_true, implies_true, Bool.false_eq_true, Option.map_some, List.set_cons_succ, List.set_cons_zero, List.getD_cons_succ, List.getD_cons_zero, Zau, Zb3, ↓reduceIte, Za2, Zbc, Za4, Zac, Zaw, Zap, and_self, List.append_nil, Zas, Zbg, Zeu, Ze4, Zad, Zb4, Zc9, Zco, Zbs, Zcq, List.take_zero, List.drop_succ_cons, List.drop_zero, Zag, Nat.zero_add, Nat.le_refl, sz28, ag28, Za1 (hcv _), sumC, w74]
    rw [rout_nrm (hgetn.trans rfl)]
    simp only [List.set_cons_succ, List.set_cons_zero, Ze4]
  · rw [Zeu, kRng_nrm' (n := h.length + 2) (by simp) (hgetn.trans rfl) (by simp)]
    simp only [Zaj, Za3, Zc8, Zao, Option.bind_some, ne_eq, reduceCtorEq, not_false_eq_true, implies_true, List.set_cons_succ, List.set_cons_zero, List.getD_cons_succ, List.getD_cons_zero, Zac, Ze4, List.map_cons, List.map_nil, Zag, Za1 (hcv _)]
    rw [gc_tail (n := h.length + 2) (h := h) (l := [_, _]) rfl (.tup [] (by simp)) ?_]
    rotate_left
    · exact ⟨.inr (.cells _ (by simp [Zbm])), .inl rfl, trivial⟩
    simp only [List.length_cons, List.length_nil, Nat.reduceAdd, Zaz, Za3, Zae, Zao, Za9, List.getElem?_cons_zero, ne_eq, reduceCtorEq, not_false_eq_true, implies_true, Bool.false_eq_true, Option.map_some, List.set_cons_succ, List.set_cons_zero, List.getD_cons_succ, List.getD_cons_zero, Zau, Zb3, ↓reduceIte, Za0, Za4, Zb0, Zab, Zaa, Zah, Zat, Zbm, and_true, Option.some.injEq, Prod.mk.injEq, Zas, Zbg, Zad, Zbs, Zb2, List.take_succ_cons, List.take_zero, Nat.zero_add, Nat.le_refl, sz28, ag28, hres, kep_undef, kep_e, kep_ptr, kep_func, kep_rd ha, sumC]
    rfl

end Go.Abs

namespace Go.Abs
open Go Go.Proofs
set_option maxRecDepth 10000
set_option maxHeartbeats 4000000

def hdr4 (n : Nat) : List UInt8 := [71, 1, UInt8.ofNat (n / 256), UInt8.ofNat n]
/-- A payload, framed. -/
def Zgk (xs : List UInt8) : List UInt8 := (hdr4 xs.length ++ xs) ++ tail4 (crc (hdr4 xs.length ++ xs))
theorem u8_div (n : Nat) : IntKind.u8.wrap ((n : Int).fdiv (2 ^ min 8 64)) = ((UInt8.ofNat (n / 256)).toNat : Int) := by
  have e : (2 : Int) ^ min 8 64 = 256 := by decide
  rw [IntKind.wrap_u8, e, Int.fdiv_eq_ediv_of_nonneg _ (by decide)]
  simp
theorem u8_nat (n : Nat) : IntKind.u8.wrap (n : Int) = ((UInt8.ofNat n).toNat : Int) := by
  rw [IntKind.wrap_u8]; simp
theorem byE_app {xs ys : List UInt8} : byE xs ++ byE ys = byE (xs ++ ys) := by simp [byE]
theorem byE_len {xs : List UInt8} : (byE xs).length = xs.length := by simp [byE]
theorem app31b {ex fu : Bool} {es xs : List (List E)} {a : D} (hne : es.isEmpty = false) (ha : slOf a = some xs) (hok : okRows 1 xs = true) (hl : es.length + xs.length ≤ 1073741824) : Zfi Try.prog 31 (.osl ex fu 1 es) a false = some (.osl ex false 1 (es ++ xs)) := by
  rw [app31 ha hok hl, hne, Bool.or_false]
theorem hdr_byE (n : Nat) : [[E.int .u8 71], [E.int .u8 1], [E.int .u8 ((UInt8.ofNat (n / 256)).toNat : Int)], [E.int .u8 ((UInt8.ofNat n).toNat : Int)]] = byE (hdr4 n) := rfl
theorem size_z {n : Nat} : (sizeZ (n : Int) == 0) = !decide (n ≤ 112) := by
  unfold sizeZ
  by_cases h : n ≤ 112
  · have h1 : decide ((n : Int) ≤ 112) = true := by simp; omega
    have h2 : decide (0 ≤ (n : Int)) = true := by simp
    rw [h1, h2, Zf9 (by omega) (by omega)]
    simp [h]; omega
  · have h1 : decide ((n : Int) ≤ 112) = false := by simp; omega
    rw [h1]; simp [h]

theorem w19 (a : D) (xs : List UInt8) (ha : Rd a (byE xs)) (hx : xs.length ≤ 100000) (h : List O) : wc 19 [a] h = some (.val (if xs.length ≤ 112 then .tup [.osl false false 1 (byE (Zgk xs)), .int .i64 0] else .tup [.osl false true 0 [], .int .i64 2]), h) := by
  have la := by_len ha
  have hcv0 : wcv 19 0 = [] := rfl
  have hcv1 : wcv 19 1 = [] := rfl
  have hcv2 : wcv 19 2 = [] := rfl
  have hcv3 : wcv 19 3 = [] := rfl
  have hcv4 : wcv 19 4 = [] := rfl
  have hcv5 : wcv 19 5 = [.kp 5] := rfl
  have hres : Try.f19.results.toList = [ResultVar.tmp 2, ResultVar.tmp 3] := rfl
  rw [wc, Zbt rfl Try.func19 rfl]
  simp only [Zbi, List.length_cons, List.length_nil, Nat.reduceSub, List.replicate, List.cons_append, List.nil_append, Zaj, Za7, Za3, Zae, Zao, Zbb, Zbe, Zbf, Za9, Zbq, List.getElem?_toArray, List.getElem?_cons_zero, Option.bind_some, ne_eq, reduceCtorEq, not_false_eq_true, implies_true, Option.map_some, List.set_cons_succ, List.set_cons_zero, List.getD_cons_succ, List.getD_cons_zero, Zau, Za2, Za0, Za6, Za4, Zaq, Zac, Zai, Zaw, Zap, Zan, Zcj, Zb8, Zay, Zd0, Ze2, List.foldl_nil, Option.bind_eq_bind, Nat.zero_add, Option.pure_def, Zcy, hcv0, hcv1, hcv2, Try.ntmps19, ha.ownD, la, w35, size_z]
  by_cases hs : xs.length ≤ 112
  rotate_left
  · have e1 : decide (xs.length ≤ 112) = false := by simp [hs]
    simp only [Zaj, Zaz, Zal, Za3, Zbr, Zae, Zao, Za9, ne_eq, reduceCtorEq, not_false_eq_true, implies_true, Bool.not_false, Option.map_some, List.set_cons_succ, List.set_cons_zero, List.getD_cons_succ, List.getD_cons_zero, Zau, Zdj, ↓reduceIte, Za0, Za4, Zaq, Zan, Zcj, Zb0, Zab, Zaa, Zah, Zd6, Zcn, Zbm, Zcx, Zcw, List.forall_mem_cons, List.not_mem_nil, false_imp_iff, and_self, Ze2, List.foldl_nil, Zcy, hcv3, hres, hs, decide_false]
  have e1 : decide (xs.length ≤ 112) = true := by simp [hs]
  have h1 : Zfi Try.prog 31 (.osl true true 1 (byE (hdr4 xs.length))) a false = some (.osl true false 1 (byE (hdr4 xs.length ++ xs))) := by
    rw [app31b rfl ha.sl (ok_byE _) (by simp [byE_len, hdr4]; omega), byE_app]
  have h37 := w37 (.e (.sl (byE (hdr4 xs.length ++ xs)))) (hdr4 xs.length ++ xs) Rd.e (by simp [hdr4]; omega)
  have h2 : Zfi Try.prog 31 (.osl false false 1 (byE (hdr4 xs.length ++ xs))) (.osl false true 1 (byE (tail4 (crc (hdr4 xs.length ++ xs))))) false = some (.osl false false 1 (byE (Zgk xs))) := by
    rw [app31b rfl Zg0 (ok_byE _) (by simp [byE_len, hdr4, tail4]; omega), byE_app]; rfl
  simp only [Zaj, Zbz, Zar, Za3, Zae, Zao, Zbb, Zbe, Zbf, Za9, List.getElem?_toArray, List.getElem?_cons_succ, List.getElem?_cons_zero, ne_eq, reduceCtorEq, not_false_eq_true, implies_true, Bool.not_true, Bool.false_eq_true, Option.map_some, List.set_cons_succ, List.set_cons_zero, List.getD_cons_succ, List.getD_cons_zero, Zau, List.any_cons, List.any_nil, Bool.or_false, ↓reduceIte, Za0, Za6, Zck, Zby, Za4, Zaf, Zb7, Zac, Zai, Zaw, Zap, Ze7, Zd9, Zan, Zh4, Zfj, Int.reduceLT, Int.reduceToNat, IntKind.bits, Zdi, Ze2, List.foldl_nil, Zcm, List.map_cons, List.map_nil, Bool.or_self, Bool.and_true, Bool.or_true, Try.underlying31, Zcy, List.foldl_cons, cv1_kp, hcv4, hcv5, hs, decide_true, ha.ownD, Zey Try.underlying3 Try.underlying5, u8_div, u8_nat, List.zip_cons_cons, List.zip_nil_right, bs31_4, hdr_byE, Zcp, taken, Zbj, Zdo, beq_self_eq_true, Nat.reduceBEq, Zdb, Zcg, Zev, Zd1, Zc1, leftT_nf, Zf2, h1]
  simp only [Zaz, Za3, Zae, Zao, Zbb, Zbe, Zbf, Za9, Zbq, List.getElem?_toArray, List.getElem?_cons_succ, List.getElem?_cons_zero, ne_eq, reduceCtorEq, not_false_eq_true, implies_true, Option.map_some, List.set_cons_succ, List.set_cons_zero, List.getD_cons_succ, List.getD_cons_zero, Zau, Za0, Za4, Zaq, Zaw, Zap, Zan, Zdi, Zb0, Zab, Zaa, Zah, Zd6, Zcn, Zbm, Zcx, Zcw, List.forall_mem_cons, List.not_mem_nil, false_imp_iff, and_self, Try.underlying31, hres, Zdb, Zcg, Zgo, Zf7, Zev, Zd1, leftT_nf, shr_fu, Zf2, h37, w36, h2]

theorem by_slice {a : D} {xs : List UInt8} (ha : Rd a (byE xs)) {lo hi : Option D} {l h : Nat} (hh : bndO hi xs.length xs.length = some h) (hl : bndO lo 0 h = some l) : sliceD Try.prog 31 a lo hi none = some (.e (.sl (byE ((xs.take h).drop l)))) := by
  rw [slice_of (h := h) (l := l) Try.underlying31 sz5 ha.sl (ok_byE xs) (by omega) (by rw [byE_len]; exact hh) hl]
  simp [byE, List.map_take, List.map_drop]
theorem bnd_nat {k : IntKind} {i y : Nat} (h : i ≤ y) : bnd (.e (.int k (i : Int))) y = some i := by rw [bnd_int (by omega) (by omega)]; simp
theorem clone31 {a : D} {xs : List UInt8} (ha : Rd a (byE xs)) (hl : xs.length ≤ 1073741824) (h : List O) : wc 31 [a] h = some (.val (.osl true false 1 (byE xs)), h) := w31 a _ ha (by rw [toB_byE]; rfl) (by rw [byE_len]; exact hl) h

theorem w41o (a : D) (xs ys : List UInt8) (ha : Rd a (byE xs)) (h : List O) : wc 41 [a, .osl true true 1 (byE ys)] h = some (.val (.bool (decide (xs = ys))), h) := by
  have hcv : ∀ i, wcv 41 i = [] := fun _ => rfl
  have hres : Try.f41.results.toList = [ResultVar.tmp 4] := rfl
  rw [wc, Zbt rfl Try.func41 rfl]
  simp only [Zbi, List.length_cons, List.length_nil, Nat.reduceAdd, Nat.reduceSub, List.replicate, List.cons_append, List.nil_append, Zaj, Zaz, Za3, Zae, Zao, Za9, ne_eq, reduceCtorEq, not_false_eq_true, implies_true, Bool.false_eq_true, Option.map_some, List.set_cons_succ, List.set_cons_zero, List.getD_cons_succ, List.getD_cons_zero, Zau, Zdj, List.any_cons, List.any_nil, ↓reduceIte, Za0, Za6, Zck, Za4, Zaf, Zaq, Zac, Zax, binS_eql, strD_eql, Zb0, Zab, Zaa, Zah, Zat, Zcn, Zbm, Bool.or_self, Nat.zero_add, Za1 (hcv _), Try.ntmps41, hres, ha.ownD, conv_str ha.sl, conv_str (a := .osl false true 1 (byE ys)) Zg0, BA_inj, Zcp, taken, Zbj, Zdo, Nat.reduceBEq, Zgo, Zf7, Zev, shr_fu, Zf2]
/-- Is it a datagram's frame? k: how long what it holds is. -/
def Zhs (xs : List UInt8) (k : Nat) : Bool := decide (k ≤ 112) && (decide (xs.take 4 = hdr4 k) && decide (xs.drop (4 + k) = tail4 (crc (xs.take (4 + k)))))

theorem w24_short (a : D) (xs : List UInt8) (ha : Rd a (byE xs)) (hx : xs.length < 8) (h : List O) : wc 24 [a] h = some (.val (.tup [.osl false true 0 [], .int .i64 11]), h) := by
  have la := by_len ha
  have hw : IntKind.i64.wrap ((xs.length : Int) - 8) = (xs.length : Int) - 8 := Zf9 (by omega) (by omega)
  have e1 : decide ((xs.length : Int) - 8 < 0) = true := by simp; omega
  have hcv : ∀ i, wcv 24 i = [] := fun _ => rfl
  have hres : Try.f24.results.toList = [ResultVar.tmp 2, ResultVar.tmp 3] := rfl
  rw [wc, Zbt rfl Try.func24 rfl]
  simp only [Zbi, List.length_cons, List.length_nil, Nat.reduceSub, List.replicate, List.cons_append, List.nil_append, Zaj, Zaz, Zc3, Za7, Zal, Za3, Zbr, Zcl, Zae, Zao, Zbb, Za9, List.getElem?_toArray, List.getElem?_cons_zero, Option.bind_some, ne_eq, reduceCtorEq, not_false_eq_true, implies_true, Option.map_some, List.set_cons_succ, List.set_cons_zero, List.getD_cons_succ, List.getD_cons_zero, Zau, Zdj, Za2, Za0, Za6, Za4, Zaq, Zac, Zai, Zan, Zcj, Zgn, Zc2, Zft, Zbv, Zd0, Zb0, Zab, Zaa, Zah, Zd6, Zcn, Zbm, Zcx, Zcw, List.forall_mem_cons, List.not_mem_nil, false_imp_iff, and_self, Option.bind_eq_bind, Nat.zero_add, Option.pure_def, Za1 (hcv _), Try.ntmps24, hres, ha.ownD, la, hw, e1]
theorem w24 (a : D) (xs : List UInt8) (ha : Rd a (byE xs)) (k : Nat) (hk : xs.length = k + 8) (hx : xs.length ≤ 100000) (h : List O) : wc 24 [a] h =
    some (.val (if Zhs xs k then .tup [.osl true false 1 (byE ((xs.take (4 + k)).drop 4)), .int .i64 0] else .tup [.osl false true 0 [], .int .i64 12]), h) := by
  have la := by_len ha
  have hw : IntKind.i64.wrap ((xs.length : Int) - 8) = (k : Int) := by rw [Zf9 (by omega) (by omega)]; omega
  have hw4 : IntKind.i64.wrap (4 + (k : Int)) = ((4 + k : Nat) : Int) := by rw [Zf9 (by omega) (by omega)]; omega
  have e1 : decide ((k : Int) < 0) = false := by simp
  have s1 : sliceD Try.prog 31 a none (some (.e (.int .i64 4))) none = some (.e (.sl (byE (xs.take 4)))) := by
    rw [by_slice (h := 4) (l := 0) ha (by rw [bndO, show (4 : Int) = ((4 : Nat) : Int) by rfl, bnd_nat (by omega)]) rfl]; simp
  have s2 : sliceD Try.prog 31 a (some (.e (.int .i64 ((4 + k : Nat) : Int)))) none none = some (.e (.sl (byE (xs.drop (4 + k))))) := by
    rw [by_slice (h := xs.length) (l := 4 + k) ha rfl (by rw [bndO, bnd_nat (by omega)])]; simp
  have s3 : sliceD Try.prog 31 a none (some (.e (.int .i64 ((4 + k : Nat) : Int)))) none = some (.e (.sl (byE (xs.take (4 + k))))) := by
    rw [by_slice (h := 4 + k) (l := 0) ha (by rw [bndO, bnd_nat (by omega)]) rfl]; simp
  have s4 : sliceD Try.prog 31 a (some (.e (.int .i64 4))) (some (.e (.int .i64 ((4 + k : Nat) : Int)))) none = some (.e (.sl (byE ((xs.take (4 + k)).drop 4)))) := by
    rw [by_slice (h := 4 + k) (l := 4) ha (by rw [bndO, bnd_nat (by omega)]) (by rw [bndO, show (4 : Int) = ((4 : Nat) : Int) by rfl, bnd_nat (by omega)])]
  have q1 := w41o (.e (.sl (byE (xs.take 4)))) (xs.take 4) (hdr4 k) Rd.e
  have q2 := w37 (.e (.sl (byE (xs.take (4 + k))))) (xs.take (4 + k)) Rd.e (by simp; omega)
  have q3 := w41o (.e (.sl (byE (xs.drop (4 + k))))) (xs.drop (4 + k)) (tail4 (crc (xs.take (4 + k)))) Rd.e
  have q4 := clone31 (a := .e (.sl (byE ((xs.take (4 + k)).drop 4)))) (xs := (xs.take (4 + k)).drop 4) Rd.e (by simp; omega)
  have hcv : ∀ i, wcv 24 i = [] := fun _ => rfl
  have hres : Try.f24.results.toList = [ResultVar.tmp 2, ResultVar.tmp 3] := rfl
  rw [wc, Zbt rfl Try.func24 rfl]
  simp only [Zbi, List.length_cons, List.length_nil, Nat.reduceSub, List.replicate, List.cons_append, List.nil_append, Zaj, Zc3, Za7, Zar, Za3, Zae, Zao, Zbb, Za9, List.getElem?_toArray, List.getElem?_cons_zero, Option.bind_some, ne_eq, reduceCtorEq, not_false_eq_true, implies_true, Option.map_some, List.set_cons_succ, List.set_cons_zero, List.getD_cons_succ, List.getD_cons_zero, Zau, Za2, Za0, Za6, Za4, Zaq, Zac, Zai, Zan, Zcj, Zgn, Zc2, Zft, Zbv, Zd0, Option.bind_eq_bind, Nat.zero_add, Option.pure_def, Za1 (hcv _), Try.ntmps24, ha.ownD, la, hw, e1]
  refine (Zf8 (l := plan24_4) (by exact plan24_4_eq)).trans ?_
  simp only [List.length_cons, List.length_nil, Nat.reduceAdd, List.getElem?_toArray, List.getElem?_cons_succ, List.getElem?_cons_zero, Option.bind_some, Nat.reduceLT, ne_eq, reduceCtorEq, not_false_eq_true, implies_true, Option.map_some, List.set_cons_succ, List.set_cons_zero, List.getD_cons_succ, List.getD_cons_zero, Zau, Zef, List.any_cons, List.any_nil, ↓reduceIte, Za6, Za4, Zac, Zai, Zaw, Zap, Zan, Zb8, Zay, List.toList_toArray, Option.some.injEq, kd_l, Zc5, Zc4, Zch, Zbn, Zc6, Zba, Zdg, Zcs, Zbx, Zbw, Zdc, Zg1, Op.operands, Ze2, List.foldl_nil, Bool.or_self, Nat.zero_add, hcv, kd_h, Zca, kdL_g, Zd4, Zd5, Ze3, Zdk, Zcb, Zcc, List.all_nil, Bool.and_self, plan24_4, ha.ownD, w35, size_z]
  by_cases h1 : k ≤ 112
  rotate_left
  · have e2 : decide (k ≤ 112) = false := by simp [h1]
    simp only [List.length_cons, List.length_nil, Nat.reduceAdd, Zaj, Zaz, Za7, Zal, Za3, Zbr, Zcl, Zae, Zao, Za9, St.put, List.getElem?_toArray, List.getElem?_cons_succ, List.getElem?_cons_zero, Option.bind_some, Nat.reduceLT, ne_eq, reduceCtorEq, not_false_eq_true, implies_true, Bool.not_false, Bool.false_eq_true, Option.map_some, List.set_cons_succ, List.set_cons_zero, List.getD_cons_succ, List.getD_cons_zero, Zau, Zef, Zdj, List.any_cons, List.any_nil, ↓reduceIte, Za0, Zam, Za4, Zaq, Zb7, Zac, Zan, Zax, Zcj, Zb0, Zab, Zaa, Zah, Zd6, Zcn, Zbm, Zcx, Zcw, List.forall_mem_cons, List.not_mem_nil, false_imp_iff, and_self, List.toList_toArray, Option.some.injEq, Ze5, kd_l, Zc5, Zc4, Zdg, Zcs, Zbx, Zbw, Zdc, Zhc, Op.operands, Bool.or_self, Bool.false_and, Nat.zero_add, Za1 (hcv _), hres, kd_h, Zca, kdL_g, kdLG_no, kdHO_g, kdHG_no, Zex, Zdk, Zcb, Zcc, List.all_nil, Bool.and_self, Zhs, h1, decide_false]
  have e2 : decide (k ≤ 112) = true := by simp [h1]
  simp only [List.length_cons, List.length_nil, Nat.reduceAdd, List.cons_append, List.nil_append, List.getElem?_toArray, List.getElem?_cons_succ, List.getElem?_cons_zero, Option.bind_some, Nat.reduceLT, not_false_eq_true, Bool.not_true, Bool.false_eq_true, Option.map_some, List.set_cons_succ, List.set_cons_zero, List.getD_cons_succ, List.getD_cons_zero, Zau, List.any_cons, List.any_nil, ↓reduceIte, Za6, Zdn, Zck, Zam, Zby, Zg9, Za4, Zaf, Zb7, Zac, Zai, Zaw, Zap, Ze7, Zd9, Zan, Zg8, Zg7, Zh4, Zfj, Int.reduceLT, Int.reduceToNat, IntKind.bits, Zes, List.toList_toArray, Option.some.injEq, kd_l, Zc5, Zc4, Zdg, Zcs, Zbx, Zbw, Zdc, Zhc, Zga, Zg1, lo_unOp, Zhj, lo_slice, Op.operands, Array.toList_append, List.append_nil, List.map_cons, List.map_nil, Bool.or_self, Nat.zero_add, kd_h, Zca, kdL_g, kdLG_yes, kdHO_g, kdHG_yes, Zd4, Zd5, Ze3, Zdk, Zcb, Zcc, List.all_nil, Bool.and_self, Option.toArray_none, Option.toArray_some, Zdb, Zcg, Zev, Zc1, h1, decide_true, ha.ownD, s1, Zey Try.underlying3 Try.underlying5, u8_div, u8_nat, List.zip_cons_cons, List.zip_nil_right, bs31_4, hdr_byE, q1]
  by_cases h2 : xs.take 4 = hdr4 k
  rotate_left
  · have e3 : decide (xs.take 4 = hdr4 k) = false := by simp [h2]
    simp only [List.length_cons, List.length_nil, Nat.reduceAdd, Zaj, Zaz, Za7, Zal, Za3, Zbr, Zcl, Zae, Zao, Za9, St.put, List.getElem?_toArray, List.getElem?_cons_succ, List.getElem?_cons_zero, Option.bind_some, Nat.reduceLT, ne_eq, reduceCtorEq, not_false_eq_true, implies_true, Bool.not_false, Bool.false_eq_true, Option.map_some, List.set_cons_succ, List.set_cons_zero, List.getD_cons_succ, List.getD_cons_zero, Zau, Zdj, List.any_cons, List.any_nil, ↓reduceIte, Za0, Zam, Za4, Zaq, Zb7, Zac, Zan, Zax, Zcj, Zb0, Zab, Zaa, Zah, Zd6, Zcn, Zbm, Zcx, Zcw, List.forall_mem_cons, List.not_mem_nil, false_imp_iff, and_self, List.toList_toArray, Option.some.injEq, Ze5, kd_l, Zc5, Zc4, Zcs, Zbx, Zbw, Zdc, Zhc, Op.operands, Bool.or_self, Bool.and_false, Bool.false_and, Nat.zero_add, Za1 (hcv _), hres, kd_h, Zca, kdL_g, kdLG_no, kdHO_g, kdHG_no, Zex, Zdk, Zcb, Zcc, List.all_nil, Bool.and_self, Zdd, e3, Zhs, e2]
  have e3 : decide (xs.take 4 = hdr4 k) = true := by simp [h2]
  simp only [List.length_cons, List.length_nil, Nat.reduceAdd, List.cons_append, List.nil_append, Za7, Za3, List.getElem?_toArray, List.getElem?_cons_succ, List.getElem?_cons_zero, Option.bind_some, Nat.reduceLT, ne_eq, reduceCtorEq, not_false_eq_true, implies_true, Bool.not_true, Bool.not_false, Bool.false_eq_true, Option.map_some, List.set_cons_succ, List.set_cons_zero, List.getD_cons_succ, List.getD_cons_zero, Zau, List.any_cons, List.any_nil, Bool.not_eq_true', ↓reduceIte, Za0, Za6, Zdn, Zam, Zg9, Za4, Zaf, Zac, Zai, Zaw, Zap, Zan, Zg8, Zg7, Zdf, Zcv, Zes, List.toList_toArray, Option.some.injEq, Ze5, kd_l, Zc5, Zc4, Zdg, Zcs, Zbx, Zbw, Zdc, Zhc, Zg1, lo_unOp, lo_slice, Op.operands, Array.toList_append, List.append_nil, Bool.or_self, Bool.and_true, Bool.true_and, Nat.zero_add, kd_h, Zca, kdL_g, kdLG_yes, kdHO_g, kdHG_yes, Zd4, Zd5, Zex, Ze3, Zdk, Zcb, Zcc, excD_e, List.all_cons, List.all_nil, Bool.and_self, Option.toArray_none, Option.toArray_some, Zdb, Zcg, Zev, Zc1, e3, ha.ownD, hw4, s2, s3, q2, w36, q3]
  by_cases h3 : xs.drop (4 + k) = tail4 (crc (xs.take (4 + k)))
  rotate_left
  · have e4 : decide (xs.drop (4 + k) = tail4 (crc (xs.take (4 + k)))) = false := by simp [h3]
    simp only [Zaj, Zaz, Zal, Za3, Zbr, Zcl, Zae, Zao, Za9, ne_eq, reduceCtorEq, not_false_eq_true, implies_true, Bool.not_false, Bool.false_eq_true, Option.map_some, List.set_cons_succ, List.set_cons_zero, List.getD_cons_succ, List.getD_cons_zero, Zau, Zdj, ↓reduceIte, Za0, Za4, Zaq, Zan, Zcj, Zb0, Zab, Zaa, Zah, Zd6, Zcn, Zbm, Zcx, Zcw, List.forall_mem_cons, List.not_mem_nil, false_imp_iff, and_self, Bool.and_false, Za1 (hcv _), hres, e4, Zhs, e2, e3, ha.excD]
  have e4 : decide (xs.drop (4 + k) = tail4 (crc (xs.take (4 + k)))) = true := by simp [h3]
  simp only [Zaj, Zbz, Zaz, Zar, Za3, Zc8, Zae, Zao, Zbe, Zbf, Za9, Zbq, ne_eq, reduceCtorEq, not_false_eq_true, implies_true, Bool.not_true, Bool.false_eq_true, Option.map_some, List.set_cons_succ, List.set_cons_zero, List.getD_cons_succ, List.getD_cons_zero, Zau, List.any_cons, List.any_nil, ↓reduceIte, Za0, Za6, Zg9, Za4, Zaf, Zaq, Zac, Zai, Zaw, Zap, Zan, Zg8, Zg7, Zdf, Zcv, Zb0, Zab, Zaa, Zah, Zd6, Zcn, Zbm, Zcx, Zcw, List.forall_mem_cons, List.not_mem_nil, false_imp_iff, and_self, Bool.or_self, Za1 (hcv _), hres, Bool.and_self, Zcp, taken, Zbj, Zdo, Nat.reduceBEq, Zdb, Zcg, Zd1, Zc1, e4, ha.ownD, ha.excD, hw4, s4, q4, Zhs, e2, e3]

end Go.Abs

namespace Go.Abs
open Go Go.Proofs
set_option maxRecDepth 10000
set_option maxHeartbeats 4000000

def bD (l : List UInt8) : List D := l.map fun b => .int .u8 (b.toNat : Int)
theorem bD_len {l : List UInt8} : (bD l).length = l.length := by simp [bD]
theorem bD_get {l : List UInt8} {i : Nat} {b : UInt8} (h : l[i]? = some b) : (bD l)[i]? = some (.int .u8 (b.toNat : Int)) := by simp [bD, h]
theorem bD_put {l : List UInt8} {i : Nat} {b : UInt8} (h : i < l.length) : List.take i (bD l) ++ [D.e (.int .u8 (b.toNat : Int))] ++ List.drop (i + 1) (bD l) = bD (l.set i b) := by
  rw [List.set_eq_take_append_cons_drop, if_pos h]
  simp [bD, List.map_take, List.map_drop]
theorem bD_set_len {l : List UInt8} {i : Nat} {b : UInt8} : (l.set i b).length = l.length := List.length_set
theorem excD_asl {i o n : Nat} : excD (.asl i o n) = false := of_decide_eq_true rfl
theorem ix_asl {k i n : Nat} (h : i < n) : Zdr Try.prog 31 (.asl k 0 n) (.e (.int .i64 (i : Int))) = some (.ptr k i) := by
  unfold Zdr
  rw [Try.underlying31]
  simp only [sz5]
  rw [if_pos ⟨by omega, by omega, by omega⟩]
  simp

/-- Behind i swaps. -/
def Swp (l cur : List UInt8) (i : Nat) : Prop := cur.length = l.length ∧ ∀ k, k < l.length → cur[k]? = if k < i ∨ l.length - i ≤ k then l[l.length - 1 - k]? else l[k]?

theorem w81 (h ex : List O) (l : List UInt8) (hl : 0 < l.length) (hx : l.length ≤ 100000) : wc 81 [.asl h.length 0 l.length] (h ++ .cells (bD l) :: ex) = some (.val Zav, h ++ .cells (bD l.reverse) :: ex) := by
  have hw : IntKind.i64.wrap ((l.length : Int) - 1) = ((l.length - 1 : Nat) : Int) := by rw [Zf9 (by omega) (by omega)]; omega
  have hcv : ∀ i, wcv 81 i = [] := fun _ => rfl
  have hres : Try.f81.results.toList = [] := rfl
  rw [wc, Zbt rfl Try.func81 rfl]
  simp only [Zbi, List.length_cons, List.length_nil, Nat.reduceSub, List.replicate, List.cons_append, List.nil_append, Zaj, Zc3, Za3, Zae, Zao, Zbb, Za9, List.getElem?_toArray, List.getElem?_cons_zero, Option.bind_some, ne_eq, reduceCtorEq, not_false_eq_true, implies_true, Option.map_some, List.set_cons_succ, List.set_cons_zero, List.getD_cons_succ, List.getD_cons_zero, Zau, own_asl, Za2, Za0, Za6, Za4, Zaq, Zac, Zai, Zan, Zgn, Zft, Zd0, Option.bind_eq_bind, Nat.zero_add, Option.pure_def, Za1 (hcv _), Try.ntmps81, len0_asl Try.underlying31, hw]
  refine Zfd (fun (n : Nat) (s : St) => ∃ (i : Nat) (j : Nat) (cur : List UInt8), (i + n = l.length ∧ i + j + 1 = l.length ∧ Swp l cur i) ∧ ∃ zs_, s = ⟨mkT [some (.asl h.length 0 l.length), none, some (.int .i64 i), some (.int .i64 j), none, none, none, none, none, none, none, none, none, none, none, none, none, none, none, none, none, none, none, none, none, none, none, none] zs_ 0, [], .no, h ++ .cells (bD cur) :: ex⟩) ?_ (l.length) ⟨0, l.length - 1, l, ⟨by omega, by omega, rfl, fun k hk => by simp; omega⟩, Zd7 rfl rfl rfl rfl⟩
  rintro n _ ⟨i, j, cur, hf_o, zs_o, rfl⟩ IH_o
  obtain ⟨hn, hij, hcl, hc⟩ := hf_o
  by_cases hi : i < j
  rotate_left
  · have e2 : decide ((i : Int) < (j : Int)) = false := by simp; omega
    have hz : cur = l.reverse := by
      apply List.ext_getElem?
      intro k
      by_cases hk : k < l.length
      · rw [hc k hk, List.getElem?_reverse hk]
        split
        · rfl
        · have : k = l.length - 1 - k := by omega
          rw [← this]
      · rw [List.getElem?_eq_none (by omega), List.getElem?_eq_none (by simp; omega)]
    simp only [List.length_cons, Nat.reduceAdd, Zaj, Zfe, Za7, Zar, Za3, Zeg, Zeh, Zdu, Zae, Zao, Za9, ne_eq, reduceCtorEq, not_false_eq_true, implies_true, Option.map_some, List.set_cons_succ, List.set_cons_zero, List.getD_cons_succ, List.getD_cons_zero, Zau, ↓reduceIte, Za2, Za6, Zac, Zc2, Zbv, Zer, Zab, Zaa, Zcr, mkT, hlen, Nat.zero_add, Za1 (hcv _), hres, e2, hz, Zf0]
  have e2 : decide ((i : Int) < (j : Int)) = true := by simp; omega
  have hxi : cur[i]? = some (cur[i]'(by omega)) := List.getElem?_eq_getElem (by omega)
  have hxj : cur[j]? = some (cur[j]'(by omega)) := List.getElem?_eq_getElem (by omega)
  generalize cur[i]'(by omega) = x at hxi
  generalize cur[j]'(by omega) = y at hxj
  have hwj : IntKind.i64.wrap ((j : Int) - 1) = ((j - 1 : Nat) : Int) := by rw [Zf9 (by omega) (by omega)]; omega
  simp only [Nat.reduceAdd, Zaj, Zbz, Zc3, Za7, Zal, Za3, Zae, Zao, Za9, ne_eq, reduceCtorEq, not_false_eq_true, implies_true, Option.map_some, List.set_cons_succ, List.set_cons_zero, List.getD_cons_succ, List.getD_cons_zero, Zau, Za2, Za6, Zac, Zc2, Zbv, mkT, Nat.zero_add, Za1 (hcv _), e2]
  refine (Zf8 (l := plan81_3) (by exact plan81_3_eq)).trans ?_
  simp only [List.length_cons, List.length_nil, Za3, Zc8, Ze8, Zae, Zao, Za9, List.getElem?_toArray, List.getElem?_cons_succ, List.getElem?_cons_zero, Option.bind_some, ne_eq, reduceCtorEq, not_false_eq_true, implies_true, Bool.not_false, Bool.true_eq_false, Bool.false_eq_true, Option.map_some, List.set_cons_succ, List.set_cons_zero, List.getD_cons_succ, List.getD_cons_zero, Zau, own_asl, List.any_cons, List.any_nil, ↓reduceIte, Za2, Za0, Za6, Zbc, Zbl, Za4, Zaf, Zac, Zai, Zan, Zdf, Zgn, Zcv, Zft, false_imp_iff, and_self, List.toList_toArray, Option.some.injEq, Ze5, kd_l, Zc5, Zc4, kd_r, Zcf, Zee, Zch, Zbn, Zc6, Zba, Zdg, Zcs, Zci, Zde, Zbx, Zbw, Zfl, Op.operands, Zg3, Zfp, Ze2, List.foldl_nil, Zas, Zbg, Zeu, Zad, Zb4, Zc9, Zco, Zcq, Bool.or_self, Nat.zero_add, sz5, ag5, Za1 (hcv _), hcv, kd_h, Zca, Zex, Zh2, Zcb, Zcc, Zcd, excD_e, List.all_cons, List.all_nil, Bool.and_self, plan81_3, ix_asl (show i < l.length by omega), ix_asl (show j < l.length by omega), bD_len, hcl, bD_get hxi, bD_get hxj, excD_asl, show Nat.testBit 8179 11 = true by decide, show Nat.testBit 8179 7 = true by decide, show Nat.testBit 32767 11 = true by decide, show Nat.testBit 32767 7 = true by decide, inc64 (show i < l.length by omega) (by omega), hwj, show i + 1 ≤ l.length by omega, show j + 1 ≤ l.length by omega, bD_put (show i < cur.length by omega), bD_set_len, bD_put (show j < (cur.set i y).length by simp; omega), bD_get (show (cur.set i y)[j]? = some y by rw [List.getElem?_set_ne (by omega)]; exact hxj)]
  refine IH_o (l.length - (i + 1)) _ (by omega) ⟨i + 1, j - 1, (cur.set i y).set j x, ⟨by omega, by omega, by simp [hcl], fun k hk => ?_⟩, Zd7 rfl rfl rfl rfl⟩
  by_cases hkj : k = j
  · subst hkj
    rw [List.getElem?_set_self (by simp; omega), if_pos (.inr (by omega))]
    have := hc i (by omega)
    rw [hxi, if_neg (by omega)] at this
    rw [this]; congr 1; omega
  · rw [List.getElem?_set_ne (by omega)]
    by_cases hki : k = i
    · subst hki
      rw [List.getElem?_set_self (by omega), if_pos (.inl (by omega))]
      have := hc j (by omega)
      rw [hxj, if_neg (by omega)] at this
      rw [this]; congr 1; omega
    · rw [List.getElem?_set_ne (by omega), hc k hk]
      by_cases h1 : k < i ∨ l.length - i ≤ k
      · rw [if_pos h1, if_pos (by omega)]
      · rw [if_neg h1, if_neg (by omega)]

end Go.Abs

namespace Go.Abs
open Go Go.Proofs
set_option maxRecDepth 10000
set_option maxHeartbeats 4000000

theorem w80 (n : Int) (h : List O) : wc 80 [.int .i64 n] h = some (.val (.func (.func 90) [] [.ptr h.length 0]), h ++ [.cells [.int .i64 n]]) := by
  have hcv : ∀ i, wcv 80 i = [] := fun _ => rfl
  have hres : Try.f80.results.toList = [ResultVar.tmp 2] := rfl
  rw [wc, Zbt rfl Try.func80 rfl]
  simp only [Zbi, List.length_cons, List.length_nil, Nat.reduceSub, List.replicate, List.cons_append, List.nil_append, Zaj, Zaz, Za3, Zae, Zao, Za9, ne_eq, reduceCtorEq, not_false_eq_true, implies_true, Option.map_some, List.set_cons_succ, List.set_cons_zero, List.getD_cons_succ, List.getD_cons_zero, Zau, Zbk, Zda, ↓reduceIte, Za0, Zd2, Zec, Za4, Zaf, Zaq, Ze7, Zd9, Zdt, Zb0, Zab, Zaa, Zah, Zat, Option.some.injEq, Prod.mk.injEq, true_and, Zc9, Zco, Nat.zero_add, Za1 (hcv _), Try.ntmps80, hres]
  rw [gc_not]
  simp [fit_func, fit_ptr]

/-- A number's bytes, the lowest first. -/
def digs (n : Nat) : List UInt8 := if h : 0 < n then UInt8.ofNat n :: digs (n / 256) else []
  termination_by n
  decreasing_by omega

theorem shr8n (n : Nat) : (n : Int).fdiv (2 ^ min 8 64) = ((n / 256 : Nat) : Int) := by
  rw [show (2 : Int) ^ min 8 64 = 256 by decide, Int.fdiv_eq_ediv_of_nonneg _ (by decide)]; rfl
theorem w90 {σ : Type} (K : σ → Nat → Prop) (H : σ → Nat → List O) (L p1 : Nat) (f : σ → UInt8 → σ) (n0 : Nat) (hn0 : n0 ≤ 1099511627776)
    (hc1 : ∀ s n, Zbp (H s n) p1 = some [.int .i64 (n : Int)]) (hset : ∀ s n m, (H s n).set p1 (.cells [.int .i64 ((m : Nat) : Int)]) = H s m)
    (hK : ∀ s n, 0 < n → K s n → K (f s (UInt8.ofNat n)) (n / 256)) (hr : ∀ s n b, 0 < n → K s n → call Try.prog wpr wcv (.round L) [.int .u8 (UInt8.toNat b : Int)] (H s n) = some (.val (.bool true), H (f s b) n)) (hgc : ∀ s n s' n' d, gc (H s n).length (H s n) (H s' n') d = H s' n') (s0 : σ) (hk0 : K s0 n0) :
    wc 90 [.func (.yield L) [] [], .ptr p1 0] (H s0 n0) = some (.val Zav, H ((digs n0).foldl f s0) 0) := by
  have hcv : ∀ i, wcv 90 i = [] := fun _ => rfl
  have hres : Try.f90.results.toList = [] := rfl
  rw [wc, Zbt rfl Try.func90 rfl]
  simp only [Zbi, List.length_cons, List.length_nil, Nat.reduceAdd, Nat.reduceSub, List.replicate, List.cons_append, List.nil_append, Zc3, Nat.zero_add, Try.ntmps90]
  refine Zfd (fun (n : Nat) (s : St) => ∃ (q : σ) (m : Nat), (m < n ∧ m ≤ n0 ∧ K q m ∧ (digs m).foldl f q = (digs n0).foldl f s0) ∧ ∃ zs_, s = ⟨mkT [some (.func (.yield L) [] []), some (.ptr p1 0), none, none, none, none, none, none, none, none, none, none] zs_ 0, [], .no, H q m⟩) ?_ (n0 + 1) ⟨s0, n0, ⟨by omega, by omega, hk0, rfl⟩, Zd7 rfl rfl rfl rfl⟩
  rintro n _ ⟨q, m, hf_o, zs_o, rfl⟩ IH_o
  obtain ⟨h1, h2, hk, ht⟩ := hf_o
  by_cases hm : 0 < m
  rotate_left
  · have e2 : decide (0 < (m : Int)) = false := by simp; omega
    have hz : m = 0 := by omega
    subst hz
    have hq : (digs n0).foldl f s0 = q := by rw [← ht, digs]; rfl
    simp only [List.length_cons, List.length_nil, Nat.reduceAdd, Zaj, Zfe, Za7, Zar, Za3, Zeg, Zeh, Zdu, Zae, Zao, Za9, List.getElem?_cons_zero, Option.bind_some, ne_eq, reduceCtorEq, not_false_eq_true, implies_true, Bool.false_eq_true, Option.map_some, List.set_cons_succ, List.set_cons_zero, List.getD_cons_succ, List.getD_cons_zero, Zb3, ↓reduceIte, Za6, Zac, Zai, Zan, Zf6, Zei, Zer, Zab, Zaa, Zcr, mkT, Zad, Zbs, Zag, Nat.zero_add, Nat.le_refl, sz3, ag3, Za1 (hcv _), hres, e2, hc1, hq, hgc]
  have e2 : decide (0 < (m : Int)) = true := by simp; omega
  simp only [List.length_cons, List.length_nil, Nat.reduceAdd, List.nil_append, Zaj, Zbz, Zc3, Za7, Zal, Zar, Za3, Zc8, Ze8, Zae, Zao, Za9, Zce, Zbq, List.getElem?_cons_zero, Option.bind_some, ne_eq, reduceCtorEq, not_false_eq_true, implies_true, Bool.not_true, Bool.false_eq_true, Option.map_some, List.set_cons_succ, List.set_cons_zero, List.getD_cons_succ, List.getD_cons_zero, Zau, Zda, Zb3, ↓reduceIte, Za2, Za6, Zdn, Zck, Zbc, Za4, Zaf, Zac, Zai, Zaw, Zap, Zan, Zf6, Zh4, Zfj, Int.reduceLT, Int.reduceToNat, IntKind.bits, Zei, Zes, and_self, mkT, List.append_nil, Zad, Zb4, Zc9, Zco, Zbs, Zcq, List.take_zero, List.drop_succ_cons, List.drop_zero, Zag, Nat.zero_add, Nat.le_refl, sz3, ag3, Za1 (hcv _), e2, hc1, Zey Try.underlying3 Try.underlying5, u8_nat, ko_val, kY_yield, hr q m _ hm hk, hset, shr8n]
  refine IH_o (m) _ (by omega) ⟨f q (UInt8.ofNat m), m / 256, ⟨by omega, by omega, hK q m hm hk, ?_⟩, Zd7 rfl rfl rfl rfl⟩
  rw [← ht, digs.eq_def m, dif_pos hm, List.foldl_cons]

end Go.Abs
