/-
  WIRE: the document's own frame; WirePayloads. No condition.
-/
import Derived.Test.YtkimilghfbgjmaaQ29

open List renaming cons_append → Yaj, getD_cons_succ → Yak, getD_cons_zero → Yal, getElem?_cons_zero → Yan, getElem?_toArray → Yao, length_cons → Yap, length_nil → Yaq, nil_append → Yar, replicate → Yae, set_cons_succ → Yas, set_cons_zero → Yat
open Option renaming bind_eq_bind → Yah, bind_some → Yau, map_some → Ya2, pure_def → Yaz
open Bool renaming false_eq_true → Yav
open Nat renaming zero_add → Yaw
namespace Go.Abs
open Go Go.Proofs
set_option maxRecDepth 10000
set_option maxHeartbeats 8000000
theorem msb_test (s : BitVec 32) : (((s >>> 31).toNat : Int) == 1) = s.msb := by
  rw [BitVec.msb_eq_decide, Bool.eq_iff_iff]
  have hs := s.isLt
  simp [Nat.shiftRight_eq_div_pow]
  omega
theorem or1 (s : BitVec 32) : (s <<< 1) ||| 1#32 = (s <<< 1) ^^^ 1#32 := by
  apply BitVec.eq_of_getLsbD_eq
  intro i hi
  by_cases h : i = 0
  · subst h; simp
  · simp [h]
theorem w59 (s : BitVec 32) (b : Bool) (h : List O) : wc 59 [.int .u32 (s.toNat : Int), .bool b] h = some (.val (.int .u32 ((stp s b).toNat : Int)), h) := by
  have e : stp s b = (if s.msb then ((if b then (s <<< 1) ||| 1#32 else s <<< 1) ^^^ 1947962583#32) else (if b then (s <<< 1) ||| 1#32 else s <<< 1)) := by
    rw [stp_eq, or1]
    cases b <;> cases s.msb <;> simp
  rw [e]
  have hm := msb_test s
  have h1 := Zuq s 31 (by decide)
  have o1 : ∀ v : BitVec 32, IntKind.u32.wrap ((BitVec.ofInt 32 (v.toNat : Int) ||| BitVec.ofInt 32 1).toNat : Int) = ((v ||| 1#32).toNat : Int) := fun v => by rw [wu32, Zhs, Zhs]; rfl
  have x1 : ∀ v : BitVec 32, IntKind.u32.wrap ((BitVec.ofInt 32 (v.toNat : Int) ^^^ BitVec.ofInt 32 1947962583).toNat : Int) = ((v ^^^ 1947962583#32).toNat : Int) := fun v => by rw [wu32, Zhs, Zhs]; rfl
  have hcv : ∀ i, wcv 59 i = [] := fun _ => rfl
  have hres : Try.f59.results.toList = [ResultVar.tmp 4] := rfl
  rw [wc, Zbm rfl Try.func59 rfl]
  cases hs : s.msb
  · rw [hs] at hm
    cases b
    · simp only [Zbj, Yap, Yaq, Nat.reduceAdd, Nat.reduceSub, Yae, Yaj, Yar, Zai, Zbw, Zb2, Za7, Zao, Za3, Zae, Zan, Za9, ne_eq, reduceCtorEq, not_false_eq_true, implies_true, Yav, Ya2, Yas, Yat, Yak, Yal, Zau, ↓reduceIte, Za4, Za0, Za6, Za2, Zap, Zab, Zag, Zam, Zb6, Zi5, Zgd, Zgj, Zev, Int.reduceLT, Int.reduceToNat, IntKind.bits, Zay, Zb3, Zad, Zac, Zal, Zav, Zcq, Zbr, Yaw, Za1 (hcv _), Try.ntmps59, hres, wu32, shl1, h1, hm]
    · simp only [Zbj, Yap, Yaq, Nat.reduceAdd, Nat.reduceSub, Yae, Yaj, Yar, Zai, Zbw, Zb2, Za7, Zak, Zao, Za3, Zae, Zan, Za9, ne_eq, reduceCtorEq, not_false_eq_true, implies_true, Yav, Ya2, Yas, Yat, Yak, Yal, Zau, ↓reduceIte, Za4, Za0, Za6, Za2, Zap, Zab, Zag, Zam, Zmd, Zb6, Zi5, Zgd, Zgj, Zev, Int.reduceLT, Int.reduceToNat, IntKind.bits, Zki, Zay, Zb3, Zad, Zac, Zal, Zav, Zcq, Zbr, and_true, Option.some.injEq, Prod.mk.injEq, Yaw, Za1 (hcv _), Try.ntmps59, hres, wu32, shl1, h1, hm]
      simp only [Zhs]
      rfl
  · rw [hs] at hm
    cases b
    · simp only [Zbj, Yap, Yaq, Nat.reduceAdd, Nat.reduceSub, Yae, Yaj, Yar, Zai, Zbw, Zb2, Za7, Zak, Zao, Za3, Zae, Zan, Za9, ne_eq, reduceCtorEq, not_false_eq_true, implies_true, Yav, Ya2, Yas, Yat, Yak, Yal, Zau, ↓reduceIte, Za4, Za0, Za6, Za2, Zap, Zab, Zag, Zam, Zj8, Zb6, Zi5, Zgd, Zgj, Zev, Int.reduceLT, Int.reduceToNat, IntKind.bits, Zhy, Zay, Zb3, Zad, Zac, Zal, Zav, Zcq, Zbr, and_true, Option.some.injEq, Prod.mk.injEq, Yaw, Za1 (hcv _), Try.ntmps59, hres, wu32, shl1, h1, hm]
      simp only [Zhs]
      rfl
    · simp only [Zbj, Yap, Yaq, Nat.reduceAdd, Nat.reduceSub, Yae, Yaj, Yar, Zai, Zb2, Za7, Zak, Za3, Zae, Zan, Za9, ne_eq, reduceCtorEq, not_false_eq_true, implies_true, Ya2, Yas, Yat, Yak, Yal, Zau, ↓reduceIte, Za4, Za0, Za6, Za2, Zap, Zab, Zag, Zam, Zmd, Zj8, Zb6, Zi5, Zgd, Zgj, Zev, Int.reduceLT, Int.reduceToNat, IntKind.bits, Zki, Zhy, Zay, Zb3, Zad, Zac, Zal, Zav, Zcq, Zbr, and_true, Option.some.injEq, Prod.mk.injEq, Yaw, Za1 (hcv _), Try.ntmps59, hres, wu32, shl1, h1, hm]
      simp only [Zhs]
      rfl
theorem and8 {a b : Int} : Ziu .and .u8 a b = some (.int .u8 (IntKind.u8.wrap ((BitVec.ofInt 8 a &&& BitVec.ofInt 8 b).toNat : Int))) := rfl
theorem bit_byte (x : UInt8) (j : Nat) (hj : j < 8) : (IntKind.u8.wrap ((BitVec.ofInt 8 (Int.fdiv (x.toNat : Int) (2 ^ min j 8)) &&& BitVec.ofInt 8 1).toNat : Int) == 1) = x.toNat.testBit j := by
  have key : ∀ n : Fin 256, ∀ j : Fin 8, (IntKind.u8.wrap ((BitVec.ofInt 8 (Int.fdiv ((UInt8.ofNat n.val).toNat : Int) (2 ^ min j.val 8)) &&& BitVec.ofInt 8 1).toNat : Int) == 1) = (UInt8.ofNat n.val).toNat.testBit j.val := by decide +kernel
  have := key ⟨x.toNat, x.toNat_lt⟩ ⟨j, hj⟩
  simpa only [UInt8.ofNat_toNat] using this
theorem bits8_take (x : UInt8) (m : Nat) (hm : m < 8) : (Zmo x).take (m + 1) = (Zmo x).take m ++ [x.toNat.testBit (7 - m)] := by
  have : (Zmo x)[m]? = some (x.toNat.testBit (7 - m)) := by
    rw [bits8_eq]
    match m, hm with
    | 0, _ | 1, _ | 2, _ | 3, _ | 4, _ | 5, _ | 6, _ | 7, _ => rfl
  rw [List.take_add_one, this]; rfl
theorem w29 (a : D) (xs : List UInt8) (ha : Rd a (byE xs)) (hx : xs.length ≤ 100000) (h : List O) : wc 29 [a] h = some (.val (.int .u32 ((crc xs).toNat : Int)), h) := by
  have la := Zor ha
  have h59 := w59
  have i32 : ((4294967295 : Int)) = ((4294967295#32).toNat : Int) := by decide
  have hcv : ∀ i, wcv 29 i = [] := fun _ => rfl
  have hres : Try.f29.results.toList = [ResultVar.tmp 2] := rfl
  rw [wc, Zbm rfl Try.func29 rfl]
  simp only [Zbj, Yap, Yaq, Nat.reduceSub, Yae, Yaj, Yar, Zai, Zc5, Za3, Zae, Zan, Za9, ne_eq, reduceCtorEq, not_false_eq_true, implies_true, Ya2, Yas, Yat, Za0, Zap, Zam, Yaw, Za1 (hcv _), Try.ntmps29]
  rw [i32]
  refine Zff (fun (n : Nat) (s : St) => ∃ (i : Nat) (u : BitVec 32), (i + n = xs.length + 1 ∧ i ≤ xs.length ∧ u = (Zfr (xs.take i)).foldl stp 4294967295#32) ∧ ∃ zs_, s = ⟨mkT [some (a), none, none, some (.int .u32 (u.toNat : Int)), some (.int .i64 (i : Int)), none, none, none, none, none, none, none, none, none, none, none, none, none, none, none, none, none, none, none, none, none, none, none, none, none, none, none, none, none, none] zs_ 0, [], .no, h⟩) ?_ (xs.length + 1) ⟨0, 4294967295#32, ⟨by omega, by omega, rfl⟩, Zd8 rfl rfl rfl rfl⟩
  rintro n _ ⟨i, u, hf_o, zs_o, rfl⟩ IH_o
  obtain ⟨hn, hi2, hs⟩ := hf_o
  by_cases hi : i < xs.length
  rotate_left
  · have e2 : decide ((i : Int) < (xs.length : Int)) = false := by simp; omega
    have hie : i = xs.length := by omega
    subst hie
    rw [List.take_length] at hs
    simp only [Nat.reduceAdd, Zai, Zfv, Zc5, Za7, Zao, Za3, Zeq, Zer, Ze2, Zae, Zan, Zbd, Za9, Yao, Yan, Yau, ne_eq, reduceCtorEq, not_false_eq_true, implies_true, Ya2, Yas, Yat, Yak, Yal, Zau, ↓reduceIte, Za4, Za0, Za6, Zap, Zab, Zam, Zc6, Zbs, Zd0, mkT, Yah, Yaw, Yaz, Za1 (hcv _), ha.ownD, la, e2]
    refine Zff (fun (n : Nat) (s : St) => ∃ (i : Nat) (t : BitVec 32), (i + n = 33 ∧ i ≤ 32 ∧ t = (Yae i false).foldl stp u) ∧ ∃ zs_, s = ⟨mkT [some (a), none, none, some (.int .u32 (t.toNat : Int)), none, none, some (.int .i64 (i : Int)), none, none, none, none, none, none, none, none, none, none, none, none, none, none, none, none, none, none, none, none, none, none, none, none, none, none, none, none] zs_ 0, [], .no, h⟩) ?_ (33) ⟨0, u, ⟨by omega, by omega, rfl⟩, Zd8 rfl rfl rfl rfl⟩
    rintro n _ ⟨i, t, hf_z, zs_z, rfl⟩ IH_z
    obtain ⟨hn, hi2, ht⟩ := hf_z
    by_cases hi : i < 32
    rotate_left
    · have e3 : decide ((i : Int) < 32) = false := by simp; omega
      have hie : i = 32 := by omega
      subst hie
      have hc : crc xs = t := by rw [crc, Zrw, List.foldl_append, Zuh, ht, hs]
      simp only [Nat.reduceAdd, Zai, Zb2, Zfv, Za7, Zao, Za3, Zeq, Zer, Ze2, Zae, Zan, Za9, ne_eq, reduceCtorEq, not_false_eq_true, implies_true, Ya2, Yas, Yat, Yak, Yal, Zau, ↓reduceIte, Za4, Za0, Za6, Za2, Zab, Zag, Zam, Zc6, Zbs, Zb3, Zad, Zac, Zal, Zav, Zcq, Zbr, mkT, Yaw, Za1 (hcv _), hres, e3, hc]
    · have e3 : decide ((i : Int) < 32) = true := by simp; omega
      simp only [Nat.reduceAdd, Zai, Zbw, Zc5, Za7, Zak, Za3, Zcd, Zdx, Zae, Zan, Zbf, Zbg, Za9, Zbq, ne_eq, reduceCtorEq, not_false_eq_true, implies_true, Ya2, Yas, Yat, Yak, Yal, Zau, Za4, Za0, Za6, Za2, Zap, Zab, Zag, Zaq, Zah, Zam, Zax, Zdc, Zc6, Zcz, Zbs, mkT, Yaw, Za1 (hcv _), e3, h59, Zp7 (show i < 33 by omega) (by omega)]
      refine IH_z (33 - (i + 1)) _ (by omega) ⟨i + 1, stp t false, ⟨by omega, by omega, by rw [List.replicate_succ', List.foldl_append, ← ht]; rfl⟩, Zd8 rfl rfl rfl rfl⟩
  have e2 : decide ((i : Int) < (xs.length : Int)) = true := by simp; omega
  have hxi : xs[i]? = some (xs[i]'hi) := List.getElem?_eq_getElem hi
  generalize xs[i]'hi = x at hxi
  have ix := by_ix (i := i) ha hxi
  simp only [Nat.reduceAdd, Zai, Zbw, Zc5, Za7, Zak, Za3, Zae, Zan, Zbd, Za9, Yao, Yan, Yau, ne_eq, reduceCtorEq, not_false_eq_true, implies_true, Ya2, Yas, Yat, Yak, Yal, Zau, Za4, Za0, Za6, Zap, Zab, Zam, Zc6, Zbs, Zd0, mkT, Yah, Yaw, Yaz, Za1 (hcv _), ha.ownD, la, e2]
  refine Zff (fun (n : Nat) (s : St) => ∃ (m : Nat) (t : BitVec 32), (m + n = 9 ∧ m ≤ 8 ∧ t = ((Zmo x).take m).foldl stp u) ∧ ∃ zs_, s = ⟨mkT [some (a), none, none, some (.int .u32 (t.toNat : Int)), some (.int .i64 (i : Int)), some (.int .i64 ((7 : Int) - (m : Int))), none, none, none, none, none, none, none, none, none, none, none, none, none, none, none, none, none, none, none, none, none, none, none, none, none, none, none, none, none] zs_ 0, [], .no, h⟩) ?_ (9) ⟨0, u, ⟨by omega, by omega, rfl⟩, Zd8 rfl rfl rfl rfl⟩
  rintro n _ ⟨m, t, hf_q, zs_q, rfl⟩ IH_q
  obtain ⟨hqn, hm8, ht⟩ := hf_q
  by_cases hm : m < 8
  rotate_left
  · have e3 : decide ((0 : Int) ≤ 7 - (m : Int)) = false := by simp; omega
    have hme : m = 8 := by omega
    subst hme
    simp only [Nat.reduceAdd, Zai, Zfv, Za7, Zao, Za3, Zeq, Zcd, Zer, Zdx, Ze2, Zae, Zan, Za9, ne_eq, reduceCtorEq, not_false_eq_true, implies_true, Ya2, Yas, Yat, Yak, Yal, Zau, ↓reduceIte, Za4, Za0, Za6, Za2, Zab, Zag, Zam, Zdc, Zf2, Zcz, Zeb, mkT, Yaw, Za1 (hcv _), e3, Zp7 hi (by omega)]
    have hb : (Zfr (xs.take (i + 1))).foldl stp 4294967295#32 = t := by
      rw [List.take_add_one, hxi, Zrw, List.foldl_append, ← hs, ht]
      rw [List.take_of_length_le (show (Zmo x).length ≤ 8 by rw [Zo5]; omega)]
      simp [Zfr]
    refine IH_o (xs.length + 1 - (i + 1)) _ (by omega) ⟨i + 1, t, ⟨by omega, by omega, hb.symm⟩, Zd8 rfl rfl rfl rfl⟩
  have e3 : decide ((0 : Int) ≤ 7 - (m : Int)) = true := by simp; omega
  have hw7 : IntKind.u64.wrap ((7 : Int) - (m : Int)) = ((7 - m : Nat) : Int) := by rw [IntKind.wrap]; simp [IntKind.bits, IntKind.signed]; omega
  have hnn : ¬ (((7 - m : Nat) : Int) < 0) := by omega
  have hbb := bit_byte x (7 - m) (by omega)
  have hdec : IntKind.i64.wrap ((7 : Int) - (m : Int) - 1) = (7 : Int) - ((m + 1 : Nat) : Int) := by rw [Zft (by omega) (by omega)]; omega
  simp only [Yap, Yaq, Nat.reduceAdd, Zai, Zbw, Zc5, Za7, Zak, Za3, Zcd, Zdx, Zae, Zan, Zbf, Zbg, Za9, Zbq, Yan, Yau, ne_eq, reduceCtorEq, not_false_eq_true, implies_true, Ya2, Yas, Yat, Yak, Yal, Zau, ↓reduceIte, Za4, Za0, Za6, Zcs, Zbo, Za2, Zaf, Zab, Zag, Zaq, Zah, Zam, Zgn, Zj9, Zb6, Zf2, Zgd, IntKind.bits, Zg1, Zay, Zeb, mkT, Ze3, Zj0, Zaj, Yaw, Nat.le_refl, sz5, ag5, Za1 (hcv _), ha.ownD, e3, ix, Zez Try.underlying3 Try.underlying38, hw7, Zev hnn, Int.toNat_natCast, ↓and8, hbb, h59, hdec]
  refine IH_q (9 - (m + 1)) _ (by omega) ⟨m + 1, stp t (x.toNat.testBit (7 - m)), ⟨by omega, by omega, by rw [bits8_take x m hm, List.foldl_append, ← ht]; rfl⟩, Zd8 rfl rfl rfl rfl⟩
theorem w16 (a : D) (xs : List UInt8) (ha : Rd a (byE xs)) (hx : xs.length ≤ 112) (h : List O) : wc 16 [a] h = some (.val (.tup [.osl false false 1 (byE (Zg7 xs)), .int .i64 0]), h) := by
  have la := Zor ha
  have h28 := w28 (xs.length : Int)
  have z1 : (decide ((xs.length : Int) < 0) || decide ((112 : Int) < (xs.length : Int))) = false := by
    rw [Bool.or_eq_false_iff]; exact ⟨by simp, by simp; omega⟩
  rw [z1] at h28
  have z2 : IntKind.i64.wrap ((xs.length : Int) + 8) = ((xs.length + 8 : Nat) : Int) := by rw [Zft (by omega) (by omega)]; omega
  rw [z2] at h28
  have z3 : (((xs.length + 8 : Nat) : Int) == 0) = false := by simp; omega
  have bh : Zef Try.prog 31 4 [(0, .e (.int .u8 71)), (1, .e (.int .u8 1)), (2, .e (.int .u8 ((UInt8.ofNat (xs.length / 256)).toNat : Int))), (3, .e (.int .u8 ((UInt8.ofNat xs.length).toNat : Int)))] = some (.osl true true 1 (byE (hdr4 xs.length))) := by
    rw [Zt6]; rfl
  have ah : Zfz Try.prog 31 (.osl true true 1 (byE (hdr4 xs.length))) a false = some (.osl true false 1 (byE (hdr4 xs.length ++ xs))) := by
    have := app31 (ex := true) (fu := true) (es := byE (hdr4 xs.length)) (xs := byE xs) ha.sl (Zq6 _) (by simp [byE, hdr4]; omega)
    rw [this, Zr1]; rfl
  have h29 := w29 (.e (.sl (byE (hdr4 xs.length ++ xs)))) (hdr4 xs.length ++ xs) Rd.e (by simp [hdr4]; omega)
  generalize hcr : crc (hdr4 xs.length ++ xs) = s at h29
  have ob : ∀ v : BitVec 32, UInt8.ofNat v.toNat = .ofBitVec (v.setWidth 8) := fun v => by
    apply UInt8.toNat_inj.1
    simp
  have bt : Zef Try.prog 31 4 [(0, .e (.int .u8 ((UInt8.ofNat (s >>> 24).toNat).toNat : Int))), (1, .e (.int .u8 ((UInt8.ofNat (s >>> 16).toNat).toNat : Int))), (2, .e (.int .u8 ((UInt8.ofNat (s >>> 8).toNat).toNat : Int))), (3, .e (.int .u8 ((UInt8.ofNat s.toNat).toNat : Int)))] = some (.osl true true 1 (byE (Zlh s))) := by
    rw [Zt6]; simp only [ob]; rfl
  have at_ : Zfz Try.prog 31 (.osl false false 1 (byE (hdr4 xs.length ++ xs))) (.osl false true 1 (byE (Zlh s))) false = some (.osl false false 1 (byE (Zg7 xs))) := by
    rw [Zxs rfl Zgg (Zq6 _) (by simp [Zk6, hdr4, Zlh]; omega), Zr1, Zg7, hcr]
  have hcv : ∀ i, wcv 16 i = [] := fun _ => rfl
  have hres : Try.f16.results.toList = [ResultVar.tmp 2, ResultVar.tmp 3] := rfl
  rw [wc, Zbm rfl Try.func16 rfl]
  simp only [Zbj, Yap, Yaq, Nat.reduceSub, Yae, Yaj, Yar, Zai, Zbw, Zb2, Za7, Zao, Za3, Zae, Zan, Zbd, Zbf, Zbg, Za9, Zbq, Yao, List.getElem?_cons_succ, Yan, Yau, ne_eq, reduceCtorEq, not_false_eq_true, implies_true, Yav, Ya2, Yas, Yat, Yak, Yal, Zau, List.any_cons, List.any_nil, Bool.or_false, ↓reduceIte, Za0, Za6, Zcs, Zca, Za2, Zaf, Zap, Zbh, Zab, Zag, Zaq, Zah, Zec, Zdg, Zam, Zcw, Zb6, Zgd, Zev, Int.reduceLT, Int.reduceToNat, IntKind.bits, Zay, Zd0, Ze4, Zb3, Zad, Zac, Zal, Zd2, Zcq, Zbr, Zcy, Zcx, List.forall_mem_cons, List.not_mem_nil, false_imp_iff, and_self, List.map_cons, List.map_nil, Yah, Bool.or_self, Bool.or_true, Yaw, Yaz, Try.underlying31, Za1 (hcv _), Try.ntmps16, hres, ha.ownD, la, h28, z3, shr8n, Zez Try.underlying3 Try.underlying5, Zez Try.underlying28 Try.underlying5, Zr3, List.zip_cons_cons, List.zip_nil_right, bh, ah, h29, Zuq _ 24 (by decide), Zuq _ 16 (by decide), Zuq _ 8 (by decide), bt, at_, Zci, taken, Zbi, Zdj, beq_self_eq_true, Nat.reduceBEq, Zdd, Zcn, Zgf, Zfb, Zfj, Zd6, Zcg, Zj5, Zkk, Zi8, Zf6]
theorem Zxy {xs : List UInt8} (hx : xs.length ≤ 112) : Zup (Zg7 xs) = match Ztf xs with | some m => .ok m | none => .error 12 := by
  unfold Zup
  have hl := Zis xs
  have e : (Zg7 xs).length - 8 = xs.length := by omega
  rw [if_neg (by omega), e, Zl6 xs hx, if_pos rfl]
  have : ((Zg7 xs).take (4 + xs.length)).drop 4 = xs := by
    rw [List.drop_take, show 4 + xs.length - 4 = xs.length by omega, Zmn]
  rw [this]
  cases Ztf xs <;> rfl
theorem w5 (a : D) (xs : List UInt8) (ha : Rd a (byE xs)) (h : List O) : wc 5 [a] h = some (.val (.bool true), h) := by
  have la := Zor ha
  have h8 := w8
  have h14 := w14
  by_cases hg : (112 : Int) < (xs.length : Int)
  · have e1 : decide ((112 : Int) < (xs.length : Int)) = true := by simpa using hg
    have hcv : ∀ i, wcv 5 i = [] := fun _ => rfl
    have hres : Try.f5.results.toList = [ResultVar.tmp 2] := rfl
    rw [wc, Zbm rfl Try.func5 rfl]
    simp only [Zbj, Yap, Yaq, Nat.reduceSub, Yae, Yaj, Yar, Zai, Zb2, Za7, Zak, Za3, Zc0, Zae, Zan, Zbd, Zbf, Zbg, Za9, Zbq, Yao, Yan, Yau, ne_eq, reduceCtorEq, not_false_eq_true, implies_true, Ya2, Yas, Yat, Yak, Yal, Zau, Za4, Za0, Za6, Za2, Zap, Zab, Zag, Zaq, Zam, Zax, Zeo, Zdr, Zd0, Zb3, Zad, Zac, Zal, Zav, Zcq, Zbr, Yah, Yaw, Yaz, Za1 (hcv _), Try.ntmps5, hres, ha.ownD, la, e1, h8]
  have e1 : decide ((112 : Int) < (xs.length : Int)) = false := by simpa using hg
  have h16 := w16 a xs ha (by omega)
  have h17 := w17 a xs ha (by omega)
  have h11 := w11 (.e (.sl (byE (Zg7 xs)))) (Zg7 xs) Rd.e (by rw [Zis]; omega)
  rw [Zxy (by omega)] at h11
  have q1 : ((0 : Int) != 0) = false := by decide
  have q2 : ((0 : Int) == 0) = true := by decide
  cases hr : Ztf xs with
  | none =>
    rw [hr] at h17 h11
    simp only [takeV, Msg.cs, msg0] at h11 h17
    have h13 := w13 msg0 msg0 (.osl false true 0 []) (.osl false true 0 []) Rd.osl Rd.osl (by decide)
    have e13 : (decide (msg0.list = msg0.list) && Zlk msg0 msg0) = true := by rw [Zms]
    rw [e13] at h13
    simp only [Msg.cs, msg0] at h13
    have q3 : ((12 : Int) != 12) = false := by decide
    have q4 : ((12 : Int) != 0) = true := by decide
    have hcv : ∀ i, wcv 5 i = [] := fun _ => rfl
    have hres : Try.f5.results.toList = [ResultVar.tmp 2] := rfl
    rw [wc, Zbm rfl Try.func5 rfl]
    simp only [Zbj, Yap, Yaq, Nat.reduceAdd, Nat.reduceSub, Yae, Yaj, Yar, Zai, Zbw, Zb2, Za7, Zak, Zao, Za3, Zc0, Zae, Zan, Zbd, Zbf, Zbg, Zas, Za9, Zcf, Zbq, Zch, Yao, List.getElem?_cons_succ, Yan, Yau, Nat.reduceLT, ne_eq, reduceCtorEq, not_false_eq_true, implies_true, Bool.not_true, Yav, Ya2, Yas, Yat, Yak, Yal, Zau, Zbu, List.any_cons, List.any_nil, Zb7, Zd5, Bool.or_false, ↓reduceIte, Za0, Za6, Ze0, Zat, Zd4, Zbb, Zc8, Za2, Zaf, Zap, Zab, Zag, Zaq, Zah, Zam, Zax, Zem, Zeo, Zdm, Zdr, Zf4, Zd0, Zb3, Zad, Zac, Zal, Zav, Zbr, and_self, Option.some.injEq, List.append_nil, Zar, Zbe, Zbk, Zcr, Zet, Zdh, hlen, Zin, Za8, Zb1, Zb0, Zb8, Zct, Zbt, Zco, Zb4, List.take_succ_cons, List.take_zero, List.drop_succ_cons, List.drop_zero, List.map_cons, List.map_nil, Yah, Zaj, Bool.or_self, Yaw, Yaz, Nat.le_refl, sz27, ag27, Za1 (hcv _), Try.ntmps5, hres, ha.ownD, la, e1, h8, h16, h17, h11, h13, q1, q3, q4, zo27, Zd7, Zg4, Zhh, Zii, Zfp, Ziw, back, Zci, taken, Zbi, Zdj, beq_self_eq_true, Nat.reduceBEq, Zdd, Zcn, Zgf, Zfb, Zd6, Zj5, Zn6, Zi8, Zf6]
  | some m =>
    rw [hr] at h17 h11
    obtain ⟨hcl, hrt, c1, c2⟩ := Zwr hr
    have hf := (Zle c1 c2).1 hrt
    obtain ⟨hml, hm3⟩ := Zqi hf
    have hpl := Zrn hf
    rw [hcl] at hpl
    have hrd : Rd (lsD (Zjj m.list)) (isE m.list) := by have := lsD_rd (Zjj m.list); rwa [← hml] at this
    have h12 := w12 m (lsD (Zjj m.list)) hrd (by omega) hrt hf
    rw [hcl] at h12
    have h13 := w13 m m (lsD (Zjj m.list)) (lsD (Zjj m.list)) hrd hrd (by omega)
    have e13 : (decide (m.list = m.list) && Zlk m m) = true := by rw [Zms]
    rw [e13] at h13
    have h15 := w15 (.e (.sl (byE xs))) a xs xs Rd.e ha
    have e15 : decide (xs = xs) = true := by simp
    rw [e15] at h15
    have e46 : decide ((xs.length : Int) ≤ 46) = true := by simp; omega
    simp only [takeV] at h11
    dsimp only at h17
    generalize Zjj m.list = ns at h12 h13 h11 h17
    simp only [Msg.cs] at h11 h17 h12 h13
    have hcv : ∀ i, wcv 5 i = [] := fun _ => rfl
    have hres : Try.f5.results.toList = [ResultVar.tmp 2] := rfl
    rw [wc, Zbm rfl Try.func5 rfl]
    cases ns with
    | nil =>
      simp only [lrD, lsD] at h11 h17 h12 h13
      simp only [Zbj, Yap, Yaq, Nat.reduceAdd, Nat.reduceSub, Yae, Yaj, Yar, Zai, Zbw, Zb2, Za7, Zao, Za3, Zae, Zan, Zbd, Zbf, Zbg, Zas, Za9, Zcf, Zbq, Zch, Ze8, St.put, Yao, List.getElem?_cons_succ, Yan, Yau, Nat.reduceLT, ne_eq, reduceCtorEq, not_false_eq_true, implies_true, Bool.not_true, Yav, Ya2, Yas, Yat, Yak, Yal, Zau, Zbu, List.any_cons, List.any_nil, Zb7, Zd5, Bool.or_false, ↓reduceIte, Za0, Za6, Ze0, Zat, Zd4, Zbb, Zc8, Za2, Zaf, Zap, Zbh, Zab, Zag, Zaq, Zah, Zam, Zax, Zb6, Zem, Zfx, Zeo, Zay, Zdm, Zf0, Zdr, Zf4, Zd0, Zb3, Zad, Zac, Zal, Zav, Zbr, and_self, Option.some.injEq, List.append_nil, Zar, Zbe, Zbk, Zcr, Zet, Zdh, hlen, Zin, Za8, Zb1, Zb0, Zb8, Zct, Zbt, Zco, Zb4, List.take_succ_cons, List.take_zero, List.drop_succ_cons, List.drop_zero, List.map_cons, List.map_nil, Yah, Zaj, Bool.or_self, Yaw, Yaz, Nat.le_refl, sz27, ag27, Za1 (hcv _), Try.ntmps5, hres, ha.ownD, la, e1, h8, h14, h16, h17, h11, h12, h13, h15, q1, q2, e46, zo27, Zd7, Zg4, Zhh, Zii, Zfp, Ziw, back, Zci, taken, Zbi, Zdj, beq_self_eq_true, Nat.reduceBEq, Zdd, Zcn, Zgf, Zfb, Zd6, Zcg, Zj5, Zi2, Zn6, Zi8, Zf6]
    | cons n ns =>
      simp only [lrD, lsD] at h11 h17 h12 h13
      simp only [Zbj, Yap, Yaq, Nat.reduceAdd, Nat.reduceSub, Yae, Yaj, Yar, Zai, Zbw, Zb2, Za7, Zao, Za3, Zae, Zan, Zbd, Zbf, Zbg, Zas, Za9, Zcf, Zbq, Zch, Ze8, St.put, Yao, List.getElem?_cons_succ, Yan, Yau, Nat.reduceLT, ne_eq, reduceCtorEq, not_false_eq_true, implies_true, Bool.not_true, Yav, Ya2, Yas, Yat, Yak, Yal, Zau, Zbu, List.any_cons, List.any_nil, Zb7, Bool.or_false, ↓reduceIte, Za0, Za6, Ze0, Zat, Zd4, Zbb, Zc8, Za2, Zaf, Zap, Zbh, Zab, Zag, Zaq, Zah, Zam, Zax, Zb6, Zem, Zfx, Zeo, Zay, Zdm, Zf0, Zdr, Zf4, Zd0, Zb3, Zad, Zac, Zal, Zav, Zbr, and_self, Option.some.injEq, Zfm, Zfe, List.append_nil, Zar, Zbe, Zbk, Zcr, Zet, Zdh, hlen, Zin, Za8, Zb1, Zb0, Zb8, Zct, Zbt, Zco, Zb4, List.take_succ_cons, List.take_zero, List.drop_succ_cons, List.drop_zero, List.map_cons, List.map_nil, Yah, Zaj, Bool.or_self, Bool.or_true, Yaw, Yaz, Nat.le_refl, sz27, ag27, Za1 (hcv _), Try.ntmps5, hres, ha.ownD, la, e1, h8, h14, h16, h17, h11, h12, h13, h15, q1, q2, e46, zo27, Zxa, Zd7, Zg4, Zhh, Zii, Zfp, Ziw, Zq9, Zqu, back, Zci, taken, Zbi, Zdj, beq_self_eq_true, Nat.reduceBEq, Zdd, Zcn, Zgf, Zfb, Zd6, Zf5, Zcg, Zj5, Zi2, Zn6, Zoa, Zi8, Zf6, Zhk]
end Go.Abs
