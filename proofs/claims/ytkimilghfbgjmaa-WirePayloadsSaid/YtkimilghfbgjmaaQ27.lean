/-
  WIRE: Read, whatever it is given. WIRE: 32 bits side by side that are not all as they were change the sum. WIRE: bits that are turned. No condition.
-/
import Derived.Test.YtkimilghfbgjmaaQ26
import Derived.Test.YtkimilghfbgjmaaQ24

open List renaming all_cons → Ybu, all_nil → Ybk, any_cons → Yax, any_nil → Yay, append_assoc → Ybv, cons_append → Yaj, drop_zero → Yb8, foldl_cons → Ybn, foldl_nil → Ybl, forall_mem_cons → Yb9, getD_cons_succ → Yak, getD_cons_zero → Yal, getElem?_cons_succ → Yam, getElem?_cons_zero → Yan, getElem?_range → Yc0, getElem?_toArray → Yao, length_cons → Yap, length_nil → Yaq, map_cons → Ybi, map_nil → Yba, nil_append → Yar, not_mem_nil → Ybb, replicate → Yae, set_cons_succ → Yas, set_cons_zero → Yat, take_succ_cons → Ybc, take_zero → Ybd, toList_toArray → Ybj, zip_cons_cons → Ybo, zip_nil_right → Ybe
open Option renaming bind_some → Yau, map_some → Ya2
open Bool renaming and_self → Ybm, and_true → Ybz, false_eq_true → Yav, not_false → Ybg, or_self → Yb3, true_eq_false → Ybx
open Nat renaming add_zero → Yb4, le_refl → Yab, succ_ne_zero → Yb5, testBit → Yby, zero_add → Yaw
namespace Go.Abs
open Go Go.Proofs
set_option maxRecDepth 10000
set_option maxHeartbeats 16000000
theorem run60_no {l : List UInt8} {z0 z1 z2 z3 : D} (h : parH l = none) : ∃ d' hs', Ztd l z0 z1 z2 z3 = (.pan ferr, d', hs') := by
  unfold parH at h
  unfold Ztd
  cases p0 : parN l with
  | none => exact ⟨_, _, rfl⟩
  | some q0 =>
    obtain ⟨n0, l1⟩ := q0
    simp only [p0] at h ⊢
    cases p1 : parN l1 with
    | none => exact ⟨_, _, rfl⟩
    | some q1 =>
      obtain ⟨n1, l2⟩ := q1
      simp only [p1] at h ⊢
      cases p2 : parN l2 with
      | none => exact ⟨_, _, rfl⟩
      | some q2 =>
        obtain ⟨n2, l3⟩ := q2
        simp only [p2] at h ⊢
        cases p3 : parN l3 with
        | none => exact ⟨_, _, rfl⟩
        | some q3 => obtain ⟨n3, l4⟩ := q3; simp [p3] at h
theorem w17_head (a : D) (xs : List UInt8) (ha : Rd a (byE xs)) (hx : xs.length ≤ 100000) (hno : parH xs = none) (h : List O) :
    wc 17 [a] h = some (.val (.tup [.agg (msg0.cs (.osl false true 0 [])), .int .i64 12]), h) := by
  have h31 := Zmc ha (by omega)
  have b58 := Zr2 (d := .osl true false 1 (byE xs)) rfl rfl
  have h32 := w32 (h.length + 2)
  obtain ⟨d', hs', hrun⟩ := run60_no (z0 := .e (.int .i64 0)) (z1 := .e (.int .i64 0)) (z2 := .e (.int .i64 0)) (z3 := .e (.int .i64 0)) hno
  have hcv : ∀ i, wcv 17 i = [] := fun _ => rfl
  have hres : Try.f17.results.toList = [ResultVar.cell 2 27, ResultVar.cell 3 25] := rfl
  rw [wc, Zbm rfl Try.func17 rfl]
  simp only [Zbj, Yap, Yaq, Nat.reduceAdd, Nat.reduceSub, Yae, Yaj, Yar, Zai, Zc5, Za3, Zae, Zan, Zbf, Zbg, Za9, Zcf, Zbq, ne_eq, reduceCtorEq, not_false_eq_true, implies_true, Yav, Ya2, Yas, Yat, Yak, Yal, Zbu, Zb5, Yax, Yay, Bool.or_false, ↓reduceIte, Za0, Zd4, Zdq, Zdk, Zel, Za2, Zaf, Zab, Zaq, Zah, Zec, Zdg, List.append_nil, hlen, Zin, Zb0, Zc9, Zb8, Zcl, Ybi, Yba, Yb3, Yaw, Za1 (hcv _), Try.ntmps17, ha.ownD, zo27, zo25, Zml, h31, b58, zo59, Ybo, Ybe, h32, List.any_toArray, Zci, taken, Zbi, Zdj, Nat.reduceBEq, Zdd, Zcn, Zd6, Zf5, Zcg]
  rw [Zl7 rfl rfl rfl]
  simp only [Yap, Yaq, Nat.reduceAdd, Yaj, Yar, hlen, Ybi, Yba, Yaw, Ybv, Zif, Zl1, Zjl, Znm ha, Zmj, Zgx, Zo7, Zo8, Zo9]
  refine Zn7 (P := Try.prog) (pr := wpr) (cv := wcv) (w60_any h _ _ _ xs _ _ _ _ hx ?_) ?_
  · intro l hs i n hi hl4
    refine (Zit (hgetn.trans rfl) rfl).trans ?_
    simp only [Zai, Za3, Zae, Zan, Za9, ne_eq, reduceCtorEq, not_false_eq_true, implies_true, Ya2, Yas, Yat, Yak, Yal, Zau, Za0, Za2, Ybl, Za1 (hcv _), Ybo, Ybe, Ybn]
    rw [Zjr (hgetn.trans rfl)]
    have hi1 : i + 1 ≤ hs.length := by omega
    simp only [Yap, Yaq, Zc5, Zcd, Zae, Zan, Za9, Zcf, Yau, ne_eq, reduceCtorEq, not_false_eq_true, implies_true, Ya2, Yas, Yat, Yak, Yal, Zau, Zb5, ↓reduceIte, Za4, Zbb, Zbo, Za2, Zaf, Zab, and_self, Zbe, Zbk, Zcr, Zdh, Za8, Zb1, Zc9, Zcl, Zco, Yaw, sz3, Za1 (hcv _), ix59 hi, hi1, Zqo (show i < hs.length by omega)]
    rw [Zk8 (hgetn.trans rfl)]
    simp only [Yas, Yat, Zdh]
  · have h30 := fun ex => w30 h ex
    simp only [ferr, Msg.cs, msg0] at h30 hrun
    rw [hrun]
    simp only []
    rw [kRng_pan]
    simp only [Yap, Yaq, Nat.reduceAdd, Ze7, Zj6, Yan, implies_true, Yav, Yak, Yal, Yax, Yay, Zb7, Zd5, ↓reduceIte, Zad, Zac, Zde, Zd2, Zbr, Zcy, Zcx, Zfl, Yb9, Ybb, false_imp_iff, and_self, Zar, Zbe, Zbk, Zcr, Za8, Zbt, Zb4, Ybc, Ybd, Yb8, Ybi, Yba, Yb3, Yaw, Yab, sz25, sz27, ag25, ag27, hres, Zkr, h30, Zng, Zj1, Zmb, Zkd, Zqb ha, Zqw, Zqx, Zob, Msg.cs, msg0]
theorem w17_big (a : D) (xs l4 : List UInt8) (n0 n1 n2 n3 : Nat) (ha : Rd a (byE xs)) (hx : xs.length ≤ 100000) (hh : Heads xs l4 n0 n1 n2 n3) (h13 : 13 ≤ n0) (h : List O) :
    wc 17 [a] h = some (.val (.tup [.agg (msg0.cs (.osl false true 0 [])), .int .i64 12]), h) := by
  have h31 := Zmc ha (by omega)
  have b58 := Zr2 (d := .osl true false 1 (byE xs)) rfl rfl
  have h32 := w32 (h.length + 2)
  have hx4 : l4.length ≤ 100000 := by have := hh.len; omega
  have hcv : ∀ i, wcv 17 i = [] := fun _ => rfl
  have hres : Try.f17.results.toList = [ResultVar.cell 2 27, ResultVar.cell 3 25] := rfl
  rw [wc, Zbm rfl Try.func17 rfl]
  simp only [Zbj, Yap, Yaq, Nat.reduceAdd, Nat.reduceSub, Yae, Yaj, Yar, Zai, Zc5, Za3, Zae, Zan, Zbf, Zbg, Za9, Zcf, Zbq, ne_eq, reduceCtorEq, not_false_eq_true, implies_true, Yav, Ya2, Yas, Yat, Yak, Yal, Zbu, Zb5, Yax, Yay, Bool.or_false, ↓reduceIte, Za0, Zd4, Zdq, Zdk, Zel, Za2, Zaf, Zab, Zaq, Zah, Zec, Zdg, List.append_nil, hlen, Zin, Zb0, Zc9, Zb8, Zcl, Ybi, Yba, Yb3, Yaw, Za1 (hcv _), Try.ntmps17, ha.ownD, zo27, zo25, Zml, h31, b58, zo59, Ybo, Ybe, h32, List.any_toArray, Zci, taken, Zbi, Zdj, Nat.reduceBEq, Zdd, Zcn, Zd6, Zf5, Zcg]
  rw [Zl7 rfl rfl rfl]
  simp only [Yap, Yaq, Nat.reduceAdd, Yaj, Yar, hlen, Ybi, Yba, Yaw, Ybv, Zif, Zl1, Zjl, Znm ha, Zmj, Zgx, Zo7, Zo8, Zo9]
  refine Zn7 (P := Try.prog) (pr := wpr) (cv := wcv) (w60 h _ _ _ xs l4 n0 n1 n2 n3 _ _ _ _ hx hh ?_) ?_
  · intro l hs i n hi hl4
    refine (Zit (hgetn.trans rfl) rfl).trans ?_
    simp only [Zai, Za3, Zae, Zan, Za9, ne_eq, reduceCtorEq, not_false_eq_true, implies_true, Ya2, Yas, Yat, Yak, Yal, Zau, Za0, Za2, Ybl, Za1 (hcv _), Ybo, Ybe, Ybn]
    rw [Zjr (hgetn.trans rfl)]
    have hi1 : i + 1 ≤ hs.length := by omega
    simp only [Yap, Yaq, Zc5, Zcd, Zae, Zan, Za9, Zcf, Yau, ne_eq, reduceCtorEq, not_false_eq_true, implies_true, Ya2, Yas, Yat, Yak, Yal, Zau, Zb5, ↓reduceIte, Za4, Zbb, Zbo, Za2, Zaf, Zab, and_self, Zbe, Zbk, Zcr, Zdh, Za8, Zb1, Zc9, Zcl, Zco, Yaw, sz3, Za1 (hcv _), ix59 hi, hi1, Zqo (show i < hs.length by omega)]
    rw [Zk8 (hgetn.trans rfl)]
    simp only [Yas, Yat, Zdh]
  · rw [Zkl (n := h.length + 5) (by simp) (hgetn.trans rfl) (by simp)]
    simp only [Zai, Za3, Zcd, Zan, ne_eq, reduceCtorEq, not_false_eq_true, implies_true, Yas, Yat, Zbo, Zag, Zam, Zdh, Ybi, Yba, Za1 (hcv _)]
    rw [Zn9 (n := h.length + 5) (h := h) (l := [_, _, _, _, _]) rfl (.tup [] (by simp)) ?_]
    rotate_left
    · exact ⟨.inl rfl, .inl rfl, .inr (.cells _ (by simp [Zp0])), .inr (.cells _ (by simp [Zbr])), .inl rfl, trivial⟩
    simp only [Yap, Yaq, Nat.reduceAdd, Zan, Zbf, Zbg, Za9, Yan, Yau, Nat.reduceLeDiff, ne_eq, reduceCtorEq, not_false_eq_true, implies_true, Yav, Ya2, Yas, Yat, Yak, Yal, Zau, Zb5, Zb7, ↓reduceIte, Za6, Za2, Zaf, Zab, Zag, Zaq, Zah, Zam, Zc6, Zbs, Zbe, Zbk, Zcr, Za8, Zbt, Ybc, Ybd, Ybi, Yba, Zaj, Yaw, sz3, ag3, Zj1, Zmb, Zkd, Zqb ha, Zqw, Zqx, Zob, Zqd]
    have h33 := w33 false
    have e13 : decide ((n0 : Int) < 13) = false := by simp; omega
    have h30 := fun ex => w30 h ex (msg0.cs (.osl false true 0 [])) (.e (.int .i64 0)) rfl
    simp only [ferr, Msg.cs, msg0] at h30
    simp only [Yap, Yaq, Nat.reduceAdd, Ze7, Zgz, Yan, implies_true, Yav, Yak, Yal, Yax, Yay, Zb7, Zd5, ↓reduceIte, Zad, Zac, Zde, Zd2, Zbr, Zcy, Zcx, Zfl, Yb9, Ybb, false_imp_iff, and_self, Zar, Zbe, Zbk, Zcr, Za8, Zbt, Zb4, Ybc, Ybd, Yb8, Yb3, Yaw, Yab, sz25, sz27, ag25, ag27, hres, e13, h33, Zkr, h30, Zng, Msg.cs, msg0]
theorem w17_fill (a : D) (xs l4 : List UInt8) (n0 n1 n2 n3 : Nat) (ha : Rd a (byE xs)) (hx : xs.length ≤ 100000) (hh : Heads xs l4 n0 n1 n2 n3) (h13 : n0 < 13)
    (hf : Zjv (Ze9 n0 n1 n2 n3) l4 = none) (h : List O) :
    wc 17 [a] h = some (.val (.tup [.agg (msg0.cs (.osl false true 0 [])), .int .i64 12]), h) := by
  have h31 := Zmc ha (by omega)
  have b58 := Zr2 (d := .osl true false 1 (byE xs)) rfl rfl
  have h32 := w32 (h.length + 2)
  have hx4 : l4.length ≤ 100000 := by have := hh.len; omega
  have hcv : ∀ i, wcv 17 i = [] := fun _ => rfl
  have hres : Try.f17.results.toList = [ResultVar.cell 2 27, ResultVar.cell 3 25] := rfl
  rw [wc, Zbm rfl Try.func17 rfl]
  simp only [Zbj, Yap, Yaq, Nat.reduceAdd, Nat.reduceSub, Yae, Yaj, Yar, Zai, Zc5, Za3, Zae, Zan, Zbf, Zbg, Za9, Zcf, Zbq, ne_eq, reduceCtorEq, not_false_eq_true, implies_true, Yav, Ya2, Yas, Yat, Yak, Yal, Zbu, Zb5, Yax, Yay, Bool.or_false, ↓reduceIte, Za0, Zd4, Zdq, Zdk, Zel, Za2, Zaf, Zab, Zaq, Zah, Zec, Zdg, List.append_nil, hlen, Zin, Zb0, Zc9, Zb8, Zcl, Ybi, Yba, Yb3, Yaw, Za1 (hcv _), Try.ntmps17, ha.ownD, zo27, zo25, Zml, h31, b58, zo59, Ybo, Ybe, h32, List.any_toArray, Zci, taken, Zbi, Zdj, Nat.reduceBEq, Zdd, Zcn, Zd6, Zf5, Zcg]
  rw [Zl7 rfl rfl rfl]
  simp only [Yap, Yaq, Nat.reduceAdd, Yaj, Yar, hlen, Ybi, Yba, Yaw, Ybv, Zif, Zl1, Zjl, Znm ha, Zmj, Zgx, Zo7, Zo8, Zo9]
  refine Zn7 (P := Try.prog) (pr := wpr) (cv := wcv) (w60 h _ _ _ xs l4 n0 n1 n2 n3 _ _ _ _ hx hh ?_) ?_
  · intro l hs i n hi hl4
    refine (Zit (hgetn.trans rfl) rfl).trans ?_
    simp only [Zai, Za3, Zae, Zan, Za9, ne_eq, reduceCtorEq, not_false_eq_true, implies_true, Ya2, Yas, Yat, Yak, Yal, Zau, Za0, Za2, Ybl, Za1 (hcv _), Ybo, Ybe, Ybn]
    rw [Zjr (hgetn.trans rfl)]
    have hi1 : i + 1 ≤ hs.length := by omega
    simp only [Yap, Yaq, Zc5, Zcd, Zae, Zan, Za9, Zcf, Yau, ne_eq, reduceCtorEq, not_false_eq_true, implies_true, Ya2, Yas, Yat, Yak, Yal, Zau, Zb5, ↓reduceIte, Za4, Zbb, Zbo, Za2, Zaf, Zab, and_self, Zbe, Zbk, Zcr, Zdh, Za8, Zb1, Zc9, Zcl, Zco, Yaw, sz3, Za1 (hcv _), ix59 hi, hi1, Zqo (show i < hs.length by omega)]
    rw [Zk8 (hgetn.trans rfl)]
    simp only [Yas, Yat, Zdh]
  · rw [Zkl (n := h.length + 5) (by simp) (hgetn.trans rfl) (by simp)]
    simp only [Zai, Za3, Zcd, Zan, ne_eq, reduceCtorEq, not_false_eq_true, implies_true, Yas, Yat, Zbo, Zag, Zam, Zdh, Ybi, Yba, Za1 (hcv _)]
    rw [Zn9 (n := h.length + 5) (h := h) (l := [_, _, _, _, _]) rfl (.tup [] (by simp)) ?_]
    rotate_left
    · exact ⟨.inl rfl, .inl rfl, .inr (.cells _ (by simp [Zp0])), .inr (.cells _ (by simp [Zbr])), .inl rfl, trivial⟩
    simp only [Yap, Yaq, Nat.reduceAdd, Zan, Zbf, Zbg, Za9, Yan, Yau, Nat.reduceLeDiff, ne_eq, reduceCtorEq, not_false_eq_true, implies_true, Yav, Ya2, Yas, Yat, Yak, Yal, Zau, Zb5, Zb7, ↓reduceIte, Za6, Za2, Zaf, Zab, Zag, Zaq, Zah, Zam, Zc6, Zbs, Zbe, Zbk, Zcr, Za8, Zbt, Ybc, Ybd, Ybi, Yba, Zaj, Yaw, sz3, ag3, Zj1, Zmb, Zkd, Zqb ha, Zqw, Zqx, Zob, Zqd]
    have h33 := w33 true
    have e13 : decide ((n0 : Int) < 13) = true := by simp; omega
    have wk : IntKind.u8.wrap (n0 : Int) = (n0 : Int) := by rw [IntKind.wrap_u8]; omega
    have h34 := w34 h.length (h ++ [.cells ((Ze9 n0 n1 n2 n3).cs (.osl false true 0 [])), .cells [.e (.int .i64 0)], .cells [rdC l4], .cells [.int .i64 (n0 : Int), .int .i64 (n1 : Int), .int .i64 (n2 : Int), .int .i64 (n3 : Int)], .cells [.ptr (h.length + 2) 0]])
    have b27 := @Zpe n0 n1 n2 n3
    simp only [Msg.cs, Ze9, Ybv, Yaj, Yar, hlen, Yap, Yaq, Nat.add_assoc, Nat.reduceAdd] at h34
    simp only [Yap, Yaq, Nat.reduceAdd, Yar, Zai, Za3, Zae, Zan, Za9, Zcf, Zbq, Yam, Yan, Yau, Nat.reduceLeDiff, ne_eq, reduceCtorEq, not_false_eq_true, implies_true, Yav, Ya2, Yas, Yat, Yak, Yal, Zau, Zbu, Zb5, Yax, Yay, Zb7, Zd5, ↓reduceIte, Zcs, Zdk, Zbb, Zbo, Za2, Zaf, Zab, Zag, Zaq, Zah, Zam, and_self, List.append_nil, Zar, Zbe, Zbk, Zcr, Zet, Za8, Zb1, Zb0, Zb8, Zbt, Zco, Ybd, List.drop_succ_cons, Yb8, Ybi, Yba, Zaj, Yb3, Yaw, Yab, sz3, sz27, ag3, Za1 (hcv _), e13, h33, Zqd, ix59_1, ix59_2, ix59_3, Zez Try.underlying3 Try.underlying5, wk, b27, Ybo, Ybe]
    refine (Zed (l := Zfn) (by exact Zlz)).trans ?_
    by_cases k4 : n0 = 4
    · skip
      have g4 : ((n0 : Int) == 4) = true := by simp; omega
      simp only [Zjv, show (Ze9 n0 n1 n2 n3).kind = n0 from rfl] at hf
      rw [if_pos (by omega)] at hf
      have hbad : BadC 62 h (Ze9 n0 n1 n2 n3) (.osl false true 0 []) (.e (.int .i64 0)) l4 [.int .i64 (n0 : Int), .int .i64 (n1 : Int), .int .i64 (n2 : Int), .int .i64 (n3 : Int)] (.map (Zek (h.length + 5))) := by
        cases q1 : parN l4 with
        | none => exact x62a h (Ze9 n0 n1 n2 n3) (.osl false true 0 []) (.e (.int .i64 0)) l4 [.int .i64 (n0 : Int), .int .i64 (n1 : Int), .int .i64 (n2 : Int), .int .i64 (n3 : Int)] (.map (Zek (h.length + 5))) hx4 q1
        | some q =>
          obtain ⟨kk, r1⟩ := q
          rw [q1] at hf
          cases q2 : parB r1 with
          | none => exact x62b h (Ze9 n0 n1 n2 n3) (.osl false true 0 []) (.e (.int .i64 0)) l4 [.int .i64 (n0 : Int), .int .i64 (n1 : Int), .int .i64 (n2 : Int), .int .i64 (n3 : Int)] (.map (Zek (h.length + 5))) hx4 q1 q2
          | some q => obtain ⟨bb, r2⟩ := q; simp [q2] at hf
      obtain ⟨cM, d', hcM, hd', hc⟩ := hbad
      have h30 := fun ex => w30 h ex cM (.e (.int .i64 0)) hcM
      simp only [ferr, Msg.cs, msg0] at h30
      simp only [Msg.cs, Ze9, Zek, ferr] at hc
      simp only [Yap, Yaq, Nat.reduceAdd, Zai, Za3, Zan, Za9, St.put, Yao, Yam, Yan, Yau, Nat.reduceLeDiff, ne_eq, reduceCtorEq, not_false_eq_true, implies_true, Ybg, Ybx, Yav, Ya2, Yas, Yat, Yak, Yal, Zau, Ze5, Zb5, Zcp, Zfi, Yax, Yay, ↓reduceIte, Za4, Za0, Za6, Za5, Za2, Zab, Zag, Zaq, Zah, Zdi, false_imp_iff, and_self, Ybj, Zdy, kd_l, Zc3, Zc2, kd_r, Zc4, Zbc, Zaz, Zcv, Zcb, Zcu, Zby, Zbx, Zbp, Ze1, Op.operands, Zg6, Zfm, Zdn, Ybl, Zar, Zbk, hgetn, Za8, Zba, Zb9, Zaa, Yb3, Yb4, Yaw, Yb5, sz5, ag5, st27, Za1 (hcv _), hcv, kd_h, Zbz, Zcj, Zck, Zes, Zdp, Zdf, Zc1, Zce, Zcc, Zf8, Zej, Zf9, Ybu, Ybk, Ybm, Zfn, h34, Zei, mp65, key5, Zey, Zek, Zgc, g4, zo64, show Yby 7 0 = true by decide, show Yby 15 2 = true by decide, show Yby 15 3 = true by decide]
      simp only [Yap, Yaq, Nat.reduceAdd, Yaj, Yar, Za7, Zak, Za3, Ze7, Zae, Zan, Za9, Zgz, Yan, ne_eq, reduceCtorEq, not_false_eq_true, implies_true, Ybg, Yav, Ya2, Yas, Yat, Yak, Yal, Zb5, Zcp, Yax, Yay, Zb7, Zd5, ↓reduceIte, Za2, Zaf, Zaq, Zah, Zad, Zac, Zde, Zd2, Zbr, Zcy, Zcx, Zfl, Yb9, Ybb, false_imp_iff, and_self, Zar, Zbe, Zbk, Zcr, Za8, Zbt, Zb4, Ybc, Ybd, Yb8, Yb3, Ybz, Yaw, Yab, sz25, sz27, ag25, ag27, Za1 (hcv _), hres, Zfs Try.underlying64, Zcm, Zhi, Zh8, Zfo, Zew, hc, Zkr, h30, Zng, Zci, taken, Zbi, Msg.cs, msg0]
    by_cases k5 : n0 = 5
    · skip
      have g4 : ((n0 : Int) == 4) = false := by simp; omega
      have g5 : ((n0 : Int) == 5) = true := by simp; omega
      simp only [Zjv, show (Ze9 n0 n1 n2 n3).kind = n0 from rfl] at hf
      rw [if_neg (by omega)] at hf; rw [if_pos (by omega)] at hf
      have hbad : BadC 64 h (Ze9 n0 n1 n2 n3) (.osl false true 0 []) (.e (.int .i64 0)) l4 [.int .i64 (n0 : Int), .int .i64 (n1 : Int), .int .i64 (n2 : Int), .int .i64 (n3 : Int)] (.map (Zek (h.length + 5))) := by
        cases q1 : parP l4 with
        | none => exact x64a h (Ze9 n0 n1 n2 n3) (.osl false true 0 []) (.e (.int .i64 0)) l4 [.int .i64 (n0 : Int), .int .i64 (n1 : Int), .int .i64 (n2 : Int), .int .i64 (n3 : Int)] (.map (Zek (h.length + 5))) hx4 q1
        | some q => obtain ⟨x, r1⟩ := q; simp [q1] at hf
      obtain ⟨cM, d', hcM, hd', hc⟩ := hbad
      have h30 := fun ex => w30 h ex cM (.e (.int .i64 0)) hcM
      simp only [ferr, Msg.cs, msg0] at h30
      simp only [Msg.cs, Ze9, Zek, ferr] at hc
      simp only [Yap, Yaq, Nat.reduceAdd, Zai, Za3, Zan, Za9, St.put, Yao, Yam, Yan, Yau, Nat.reduceLeDiff, ne_eq, reduceCtorEq, not_false_eq_true, implies_true, Ybg, Ybx, Yav, Ya2, Yas, Yat, Yak, Yal, Zau, Ze5, Zb5, Zcp, Zfi, Yax, Yay, ↓reduceIte, Za4, Za0, Za6, Za5, Za2, Zab, Zag, Zaq, Zah, Zdi, false_imp_iff, and_self, Ybj, Zdy, kd_l, Zc3, Zc2, kd_r, Zc4, Zbc, Zaz, Zcv, Zcb, Zcu, Zby, Zbx, Zbp, Ze1, Op.operands, Zg6, Zfm, Zdn, Ybl, Zar, Zbk, hgetn, Za8, Zba, Zb9, Zaa, Yb3, Yb4, Yaw, Yb5, sz5, ag5, st27, Za1 (hcv _), hcv, kd_h, Zbz, Zcj, Zck, Zes, Zdp, Zdf, Zc1, Zce, Zcc, Zf8, Zej, Zf9, Ybu, Ybk, Ybm, Zfn, h34, Zei, mp65, key5, Zey, Zek, Zh9, Zgc, g4, g5, zo64, show Yby 7 0 = true by decide, show Yby 15 2 = true by decide, show Yby 15 3 = true by decide]
      simp only [Yap, Yaq, Nat.reduceAdd, Yaj, Yar, Za7, Zak, Za3, Ze7, Zae, Zan, Za9, Zgz, Yan, ne_eq, reduceCtorEq, not_false_eq_true, implies_true, Ybg, Yav, Ya2, Yas, Yat, Yak, Yal, Zb5, Zcp, Yax, Yay, Zb7, Zd5, ↓reduceIte, Za2, Zaf, Zaq, Zah, Zad, Zac, Zde, Zd2, Zbr, Zcy, Zcx, Zfl, Yb9, Ybb, false_imp_iff, and_self, Zar, Zbe, Zbk, Zcr, Za8, Zbt, Zb4, Ybc, Ybd, Yb8, Yb3, Ybz, Yaw, Yab, sz25, sz27, ag25, ag27, Za1 (hcv _), hres, Zfs Try.underlying64, Zcm, Zhi, Zh8, Zfo, Zew, hc, Zkr, h30, Zng, Zci, taken, Zbi, Msg.cs, msg0]
    by_cases k6 : n0 = 6
    · skip
      have g4 : ((n0 : Int) == 4) = false := by simp; omega
      have g5 : ((n0 : Int) == 5) = false := by simp; omega
      have g6 : ((n0 : Int) == 6) = true := by simp; omega
      simp only [Zjv, show (Ze9 n0 n1 n2 n3).kind = n0 from rfl] at hf
      rw [if_neg (by omega)] at hf; rw [if_neg (by omega)] at hf; rw [if_pos (by omega)] at hf
      have hbad : BadC 66 h (Ze9 n0 n1 n2 n3) (.osl false true 0 []) (.e (.int .i64 0)) l4 [.int .i64 (n0 : Int), .int .i64 (n1 : Int), .int .i64 (n2 : Int), .int .i64 (n3 : Int)] (.map (Zek (h.length + 5))) := by
        cases q1 : Znh l4 with
        | none => exact x66a h (Ze9 n0 n1 n2 n3) (.osl false true 0 []) (.e (.int .i64 0)) l4 [.int .i64 (n0 : Int), .int .i64 (n1 : Int), .int .i64 (n2 : Int), .int .i64 (n3 : Int)] (.map (Zek (h.length + 5))) hx4 q1
        | some q => obtain ⟨x, r1⟩ := q; simp [q1] at hf
      obtain ⟨cM, d', hcM, hd', hc⟩ := hbad
      have h30 := fun ex => w30 h ex cM (.e (.int .i64 0)) hcM
      simp only [ferr, Msg.cs, msg0] at h30
      simp only [Msg.cs, Ze9, Zek, ferr] at hc
      simp only [Yap, Yaq, Nat.reduceAdd, Zai, Za3, Zan, Za9, St.put, Yao, Yam, Yan, Yau, Nat.reduceLeDiff, ne_eq, reduceCtorEq, not_false_eq_true, implies_true, Ybg, Ybx, Yav, Ya2, Yas, Yat, Yak, Yal, Zau, Ze5, Zb5, Zcp, Zfi, Yax, Yay, ↓reduceIte, Za4, Za0, Za6, Za5, Za2, Zab, Zag, Zaq, Zah, Zdi, false_imp_iff, and_self, Ybj, Zdy, kd_l, Zc3, Zc2, kd_r, Zc4, Zbc, Zaz, Zcv, Zcb, Zcu, Zby, Zbx, Zbp, Ze1, Op.operands, Zg6, Zfm, Zdn, Ybl, Zar, Zbk, hgetn, Za8, Zba, Zb9, Zaa, Yb3, Yb4, Yaw, Yb5, sz5, ag5, st27, Za1 (hcv _), hcv, kd_h, Zbz, Zcj, Zck, Zes, Zdp, Zdf, Zc1, Zce, Zcc, Zf8, Zej, Zf9, Ybu, Ybk, Ybm, Zfn, h34, Zei, mp65, key5, Zey, Zek, Zh9, Zgc, g4, g5, g6, zo64, show Yby 7 0 = true by decide, show Yby 15 2 = true by decide, show Yby 15 3 = true by decide]
      simp only [Yap, Yaq, Nat.reduceAdd, Yaj, Yar, Za7, Zak, Za3, Ze7, Zae, Zan, Za9, Zgz, Yan, ne_eq, reduceCtorEq, not_false_eq_true, implies_true, Ybg, Yav, Ya2, Yas, Yat, Yak, Yal, Zb5, Zcp, Yax, Yay, Zb7, Zd5, ↓reduceIte, Za2, Zaf, Zaq, Zah, Zad, Zac, Zde, Zd2, Zbr, Zcy, Zcx, Zfl, Yb9, Ybb, false_imp_iff, and_self, Zar, Zbe, Zbk, Zcr, Za8, Zbt, Zb4, Ybc, Ybd, Yb8, Yb3, Ybz, Yaw, Yab, sz25, sz27, ag25, ag27, Za1 (hcv _), hres, Zfs Try.underlying64, Zcm, Zhi, Zh8, Zfo, Zew, hc, Zkr, h30, Zng, Zci, taken, Zbi, Msg.cs, msg0]
    by_cases k7 : n0 = 7
    · skip
      have g4 : ((n0 : Int) == 4) = false := by simp; omega
      have g5 : ((n0 : Int) == 5) = false := by simp; omega
      have g6 : ((n0 : Int) == 6) = false := by simp; omega
      have g7 : ((n0 : Int) == 7) = true := by simp; omega
      simp only [Zjv, show (Ze9 n0 n1 n2 n3).kind = n0 from rfl] at hf
      rw [if_neg (by omega)] at hf; rw [if_neg (by omega)] at hf; rw [if_neg (by omega)] at hf; rw [if_pos (by omega)] at hf
      have hbad : BadC 68 h (Ze9 n0 n1 n2 n3) (.osl false true 0 []) (.e (.int .i64 0)) l4 [.int .i64 (n0 : Int), .int .i64 (n1 : Int), .int .i64 (n2 : Int), .int .i64 (n3 : Int)] (.map (Zek (h.length + 5))) := by
        cases q1 : parN l4 with
        | none => exact x68a h (Ze9 n0 n1 n2 n3) (.osl false true 0 []) (.e (.int .i64 0)) l4 [.int .i64 (n0 : Int), .int .i64 (n1 : Int), .int .i64 (n2 : Int), .int .i64 (n3 : Int)] (.map (Zek (h.length + 5))) hx4 q1
        | some q =>
          obtain ⟨kk, r1⟩ := q
          rw [q1] at hf
          cases q2 : parL r1 with
          | none => exact x68b h (Ze9 n0 n1 n2 n3) (.osl false true 0 []) (.e (.int .i64 0)) l4 [.int .i64 (n0 : Int), .int .i64 (n1 : Int), .int .i64 (n2 : Int), .int .i64 (n3 : Int)] (.map (Zek (h.length + 5))) hx4 q1 q2
          | some q => obtain ⟨bb, r2⟩ := q; simp [q2] at hf
      obtain ⟨cM, d', hcM, hd', hc⟩ := hbad
      have h30 := fun ex => w30 h ex cM (.e (.int .i64 0)) hcM
      simp only [ferr, Msg.cs, msg0] at h30
      simp only [Msg.cs, Ze9, Zek, ferr] at hc
      simp only [Yap, Yaq, Nat.reduceAdd, Zai, Za3, Zan, Za9, St.put, Yao, Yam, Yan, Yau, Nat.reduceLeDiff, ne_eq, reduceCtorEq, not_false_eq_true, implies_true, Ybg, Ybx, Yav, Ya2, Yas, Yat, Yak, Yal, Zau, Ze5, Zb5, Zcp, Zfi, Yax, Yay, ↓reduceIte, Za4, Za0, Za6, Za5, Za2, Zab, Zag, Zaq, Zah, Zdi, false_imp_iff, and_self, Ybj, Zdy, kd_l, Zc3, Zc2, kd_r, Zc4, Zbc, Zaz, Zcv, Zcb, Zcu, Zby, Zbx, Zbp, Ze1, Op.operands, Zg6, Zfm, Zdn, Ybl, Zar, Zbk, hgetn, Za8, Zba, Zb9, Zaa, Yb3, Yb4, Yaw, Yb5, sz5, ag5, st27, Za1 (hcv _), hcv, kd_h, Zbz, Zcj, Zck, Zes, Zdp, Zdf, Zc1, Zce, Zcc, Zf8, Zej, Zf9, Ybu, Ybk, Ybm, Zfn, h34, Zei, mp65, key5, Zey, Zek, Zh9, Zgc, g4, g5, g6, g7, zo64, show Yby 7 0 = true by decide, show Yby 15 2 = true by decide, show Yby 15 3 = true by decide]
      simp only [Yap, Yaq, Nat.reduceAdd, Yaj, Yar, Za7, Zak, Za3, Ze7, Zae, Zan, Za9, Zgz, Yan, ne_eq, reduceCtorEq, not_false_eq_true, implies_true, Ybg, Yav, Ya2, Yas, Yat, Yak, Yal, Zb5, Zcp, Yax, Yay, Zb7, Zd5, ↓reduceIte, Za2, Zaf, Zaq, Zah, Zad, Zac, Zde, Zd2, Zbr, Zcy, Zcx, Zfl, Yb9, Ybb, false_imp_iff, and_self, Zar, Zbe, Zbk, Zcr, Za8, Zbt, Zb4, Ybc, Ybd, Yb8, Yb3, Ybz, Yaw, Yab, sz25, sz27, ag25, ag27, Za1 (hcv _), hres, Zfs Try.underlying64, Zcm, Zhi, Zh8, Zfo, Zew, hc, Zkr, h30, Zng, Zci, taken, Zbi, Msg.cs, msg0]
    by_cases k10 : n0 = 10
    · skip
      have g4 : ((n0 : Int) == 4) = false := by simp; omega
      have g5 : ((n0 : Int) == 5) = false := by simp; omega
      have g6 : ((n0 : Int) == 6) = false := by simp; omega
      have g7 : ((n0 : Int) == 7) = false := by simp; omega
      have g10 : ((n0 : Int) == 10) = true := by simp; omega
      simp only [Zjv, show (Ze9 n0 n1 n2 n3).kind = n0 from rfl] at hf
      rw [if_neg (by omega)] at hf; rw [if_neg (by omega)] at hf; rw [if_neg (by omega)] at hf; rw [if_neg (by omega)] at hf; rw [if_pos (by omega)] at hf
      have hbad : BadC 70 h (Ze9 n0 n1 n2 n3) (.osl false true 0 []) (.e (.int .i64 0)) l4 [.int .i64 (n0 : Int), .int .i64 (n1 : Int), .int .i64 (n2 : Int), .int .i64 (n3 : Int)] (.map (Zek (h.length + 5))) := by
        cases q1 : parN l4 with
        | none => exact x70a h (Ze9 n0 n1 n2 n3) (.osl false true 0 []) (.e (.int .i64 0)) l4 [.int .i64 (n0 : Int), .int .i64 (n1 : Int), .int .i64 (n2 : Int), .int .i64 (n3 : Int)] (.map (Zek (h.length + 5))) hx4 q1
        | some q =>
          obtain ⟨kk, r1⟩ := q
          rw [q1] at hf
          cases q2 : parB r1 with
          | none => exact x70b h (Ze9 n0 n1 n2 n3) (.osl false true 0 []) (.e (.int .i64 0)) l4 [.int .i64 (n0 : Int), .int .i64 (n1 : Int), .int .i64 (n2 : Int), .int .i64 (n3 : Int)] (.map (Zek (h.length + 5))) hx4 q1 q2
          | some q => obtain ⟨bb, r2⟩ := q; simp [q2] at hf
      obtain ⟨cM, d', hcM, hd', hc⟩ := hbad
      have h30 := fun ex => w30 h ex cM (.e (.int .i64 0)) hcM
      simp only [ferr, Msg.cs, msg0] at h30
      simp only [Msg.cs, Ze9, Zek, ferr] at hc
      simp only [Yap, Yaq, Nat.reduceAdd, Zai, Za3, Zan, Za9, St.put, Yao, Yam, Yan, Yau, Nat.reduceLeDiff, ne_eq, reduceCtorEq, not_false_eq_true, implies_true, Ybg, Ybx, Yav, Ya2, Yas, Yat, Yak, Yal, Zau, Ze5, Zb5, Zcp, Zfi, Yax, Yay, ↓reduceIte, Za4, Za0, Za6, Za5, Za2, Zab, Zag, Zaq, Zah, Zdi, false_imp_iff, and_self, Ybj, Zdy, kd_l, Zc3, Zc2, kd_r, Zc4, Zbc, Zaz, Zcv, Zcb, Zcu, Zby, Zbx, Zbp, Ze1, Op.operands, Zg6, Zfm, Zdn, Ybl, Zar, Zbk, hgetn, Za8, Zba, Zb9, Zaa, Yb3, Yb4, Yaw, Yb5, sz5, ag5, st27, Za1 (hcv _), hcv, kd_h, Zbz, Zcj, Zck, Zes, Zdp, Zdf, Zc1, Zce, Zcc, Zf8, Zej, Zf9, Ybu, Ybk, Ybm, Zfn, h34, Zei, mp65, key5, Zey, Zek, Zh9, Zgc, g4, g5, g6, g7, g10, zo64, show Yby 7 0 = true by decide, show Yby 15 2 = true by decide, show Yby 15 3 = true by decide]
      simp only [Yap, Yaq, Nat.reduceAdd, Yaj, Yar, Za7, Zak, Za3, Ze7, Zae, Zan, Za9, Zgz, Yan, ne_eq, reduceCtorEq, not_false_eq_true, implies_true, Ybg, Yav, Ya2, Yas, Yat, Yak, Yal, Zb5, Zcp, Yax, Yay, Zb7, Zd5, ↓reduceIte, Za2, Zaf, Zaq, Zah, Zad, Zac, Zde, Zd2, Zbr, Zcy, Zcx, Zfl, Yb9, Ybb, false_imp_iff, and_self, Zar, Zbe, Zbk, Zcr, Za8, Zbt, Zb4, Ybc, Ybd, Yb8, Yb3, Ybz, Yaw, Yab, sz25, sz27, ag25, ag27, Za1 (hcv _), hres, Zfs Try.underlying64, Zcm, Zhi, Zh8, Zfo, Zew, hc, Zkr, h30, Zng, Zci, taken, Zbi, Msg.cs, msg0]
    by_cases k11 : n0 = 11
    · skip
      have g4 : ((n0 : Int) == 4) = false := by simp; omega
      have g5 : ((n0 : Int) == 5) = false := by simp; omega
      have g6 : ((n0 : Int) == 6) = false := by simp; omega
      have g7 : ((n0 : Int) == 7) = false := by simp; omega
      have g10 : ((n0 : Int) == 10) = false := by simp; omega
      have g11 : ((n0 : Int) == 11) = true := by simp; omega
      simp only [Zjv, show (Ze9 n0 n1 n2 n3).kind = n0 from rfl] at hf
      rw [if_neg (by omega)] at hf; rw [if_neg (by omega)] at hf; rw [if_neg (by omega)] at hf; rw [if_neg (by omega)] at hf; rw [if_neg (by omega)] at hf; rw [if_pos (by omega)] at hf
      have hbad : BadC 71 h (Ze9 n0 n1 n2 n3) (.osl false true 0 []) (.e (.int .i64 0)) l4 [.int .i64 (n0 : Int), .int .i64 (n1 : Int), .int .i64 (n2 : Int), .int .i64 (n3 : Int)] (.map (Zek (h.length + 5))) := by
        cases q1 : parN l4 with
        | none => exact x71a h (Ze9 n0 n1 n2 n3) (.osl false true 0 []) (.e (.int .i64 0)) l4 [.int .i64 (n0 : Int), .int .i64 (n1 : Int), .int .i64 (n2 : Int), .int .i64 (n3 : Int)] (.map (Zek (h.length + 5))) hx4 q1
        | some q => obtain ⟨x, r1⟩ := q; simp [q1] at hf
      obtain ⟨cM, d', hcM, hd', hc⟩ := hbad
      have h30 := fun ex => w30 h ex cM (.e (.int .i64 0)) hcM
      simp only [ferr, Msg.cs, msg0] at h30
      simp only [Msg.cs, Ze9, Zek, ferr] at hc
      simp only [Yap, Yaq, Nat.reduceAdd, Zai, Za3, Zan, Za9, St.put, Yao, Yam, Yan, Yau, Nat.reduceLeDiff, ne_eq, reduceCtorEq, not_false_eq_true, implies_true, Ybg, Ybx, Yav, Ya2, Yas, Yat, Yak, Yal, Zau, Ze5, Zb5, Zcp, Zfi, Yax, Yay, ↓reduceIte, Za4, Za0, Za6, Za5, Za2, Zab, Zag, Zaq, Zah, Zdi, false_imp_iff, and_self, Ybj, Zdy, kd_l, Zc3, Zc2, kd_r, Zc4, Zbc, Zaz, Zcv, Zcb, Zcu, Zby, Zbx, Zbp, Ze1, Op.operands, Zg6, Zfm, Zdn, Ybl, Zar, Zbk, hgetn, Za8, Zba, Zb9, Zaa, Yb3, Yb4, Yaw, Yb5, sz5, ag5, st27, Za1 (hcv _), hcv, kd_h, Zbz, Zcj, Zck, Zes, Zdp, Zdf, Zc1, Zce, Zcc, Zf8, Zej, Zf9, Ybu, Ybk, Ybm, Zfn, h34, Zei, mp65, key5, Zey, Zek, Zh9, Zgc, g4, g5, g6, g7, g10, g11, zo64, show Yby 7 0 = true by decide, show Yby 15 2 = true by decide, show Yby 15 3 = true by decide]
      simp only [Yap, Yaq, Nat.reduceAdd, Yaj, Yar, Za7, Zak, Za3, Ze7, Zae, Zan, Za9, Zgz, Yan, ne_eq, reduceCtorEq, not_false_eq_true, implies_true, Ybg, Yav, Ya2, Yas, Yat, Yak, Yal, Zb5, Zcp, Yax, Yay, Zb7, Zd5, ↓reduceIte, Za2, Zaf, Zaq, Zah, Zad, Zac, Zde, Zd2, Zbr, Zcy, Zcx, Zfl, Yb9, Ybb, false_imp_iff, and_self, Zar, Zbe, Zbk, Zcr, Za8, Zbt, Zb4, Ybc, Ybd, Yb8, Yb3, Ybz, Yaw, Yab, sz25, sz27, ag25, ag27, Za1 (hcv _), hres, Zfs Try.underlying64, Zcm, Zhi, Zh8, Zfo, Zew, hc, Zkr, h30, Zng, Zci, taken, Zbi, Msg.cs, msg0]
    by_cases k12 : n0 = 12
    · skip
      have g4 : ((n0 : Int) == 4) = false := by simp; omega
      have g5 : ((n0 : Int) == 5) = false := by simp; omega
      have g6 : ((n0 : Int) == 6) = false := by simp; omega
      have g7 : ((n0 : Int) == 7) = false := by simp; omega
      have g10 : ((n0 : Int) == 10) = false := by simp; omega
      have g11 : ((n0 : Int) == 11) = false := by simp; omega
      have g12 : ((n0 : Int) == 12) = true := by simp; omega
      simp only [Zjv, show (Ze9 n0 n1 n2 n3).kind = n0 from rfl] at hf
      rw [if_neg (by omega)] at hf; rw [if_neg (by omega)] at hf; rw [if_neg (by omega)] at hf; rw [if_neg (by omega)] at hf; rw [if_neg (by omega)] at hf; rw [if_neg (by omega)] at hf; rw [if_pos (by omega)] at hf
      have hbad : BadC 72 h (Ze9 n0 n1 n2 n3) (.osl false true 0 []) (.e (.int .i64 0)) l4 [.int .i64 (n0 : Int), .int .i64 (n1 : Int), .int .i64 (n2 : Int), .int .i64 (n3 : Int)] (.map (Zek (h.length + 5))) := by
        cases q1 : parN l4 with
        | none => exact x72a h (Ze9 n0 n1 n2 n3) (.osl false true 0 []) (.e (.int .i64 0)) l4 [.int .i64 (n0 : Int), .int .i64 (n1 : Int), .int .i64 (n2 : Int), .int .i64 (n3 : Int)] (.map (Zek (h.length + 5))) hx4 q1
        | some q =>
          obtain ⟨kk, r1⟩ := q
          rw [q1] at hf
          by_cases hz : kk = 0
          · subst hz
            cases q2 : parP r1 with
            | none => exact x72b h (Ze9 n0 n1 n2 n3) (.osl false true 0 []) (.e (.int .i64 0)) l4 [.int .i64 (n0 : Int), .int .i64 (n1 : Int), .int .i64 (n2 : Int), .int .i64 (n3 : Int)] (.map (Zek (h.length + 5))) hx4 q1 q2
            | some q => obtain ⟨x, r2⟩ := q; simp [q2] at hf
          · simp [hz] at hf
      obtain ⟨cM, d', hcM, hd', hc⟩ := hbad
      have h30 := fun ex => w30 h ex cM (.e (.int .i64 0)) hcM
      simp only [ferr, Msg.cs, msg0] at h30
      simp only [Msg.cs, Ze9, Zek, ferr] at hc
      simp only [Yap, Yaq, Nat.reduceAdd, Zai, Za3, Zan, Za9, St.put, Yao, Yam, Yan, Yau, Nat.reduceLeDiff, ne_eq, reduceCtorEq, not_false_eq_true, implies_true, Ybg, Ybx, Yav, Ya2, Yas, Yat, Yak, Yal, Zau, Ze5, Zb5, Zcp, Zfi, Yax, Yay, ↓reduceIte, Za4, Za0, Za6, Za5, Za2, Zab, Zag, Zaq, Zah, Zdi, false_imp_iff, and_self, Ybj, Zdy, kd_l, Zc3, Zc2, kd_r, Zc4, Zbc, Zaz, Zcv, Zcb, Zcu, Zby, Zbx, Zbp, Ze1, Op.operands, Zg6, Zfm, Zdn, Ybl, Zar, Zbk, hgetn, Za8, Zba, Zb9, Zaa, Yb3, Yb4, Yaw, Yb5, sz5, ag5, st27, Za1 (hcv _), hcv, kd_h, Zbz, Zcj, Zck, Zes, Zdp, Zdf, Zc1, Zce, Zcc, Zf8, Zej, Zf9, Ybu, Ybk, Ybm, Zfn, h34, Zei, mp65, key5, Zey, Zek, Zh9, Zgc, g4, g5, g6, g7, g10, g11, g12, zo64, show Yby 7 0 = true by decide, show Yby 15 2 = true by decide, show Yby 15 3 = true by decide]
      simp only [Yap, Yaq, Nat.reduceAdd, Yaj, Yar, Za7, Zak, Za3, Ze7, Zae, Zan, Za9, Zgz, Yan, ne_eq, reduceCtorEq, not_false_eq_true, implies_true, Ybg, Yav, Ya2, Yas, Yat, Yak, Yal, Zb5, Zcp, Yax, Yay, Zb7, Zd5, ↓reduceIte, Za2, Zaf, Zaq, Zah, Zad, Zac, Zde, Zd2, Zbr, Zcy, Zcx, Zfl, Yb9, Ybb, false_imp_iff, and_self, Zar, Zbe, Zbk, Zcr, Za8, Zbt, Zb4, Ybc, Ybd, Yb8, Yb3, Ybz, Yaw, Yab, sz25, sz27, ag25, ag27, Za1 (hcv _), hres, Zfs Try.underlying64, Zcm, Zhi, Zh8, Zfo, Zew, hc, Zkr, h30, Zng, Zci, taken, Zbi, Msg.cs, msg0]
    exfalso
    simp only [Zjv, show (Ze9 n0 n1 n2 n3).kind = n0 from rfl] at hf
    rw [if_neg (by omega)] at hf; rw [if_neg (by omega)] at hf; rw [if_neg (by omega)] at hf; rw [if_neg (by omega)] at hf; rw [if_neg (by omega)] at hf; rw [if_neg (by omega)] at hf; rw [if_neg (by omega)] at hf; cases hf
noncomputable def Ztf (xs : List UInt8) : Option Msg := match readL xs with
  | some (m, l5) => open Classical in if l5 = [] ∧ m.right = true then some m else none
  | none => none
theorem w17 (a : D) (xs : List UInt8) (ha : Rd a (byE xs)) (hx : xs.length ≤ 100000) (h : List O) : wc 17 [a] h = some (.val (match Ztf xs with
      | some m => .tup [.agg (m.cs (lrD (Zjj m.list))), .int .i64 0]
      | none => .tup [.agg (msg0.cs (.osl false true 0 [])), .int .i64 12]), h) := by
  unfold Ztf readL
  cases hp : parH xs with
  | none => exact w17_head a xs ha hx hp h
  | some q =>
    obtain ⟨⟨n0, n1, n2, n3⟩, l4⟩ := q
    have hh := Zty hp
    simp only
    by_cases h13 : n0 < 13
    · rw [if_pos h13]
      cases hf : Zjv (Ze9 n0 n1 n2 n3) l4 with
      | none => exact w17_fill a xs l4 n0 n1 n2 n3 ha hx hh h13 hf h
      | some q =>
        obtain ⟨m, l5⟩ := q
        obtain ⟨ns, hns⟩ := fill_list hf
        have hw := w17_ok a xs l4 l5 n0 n1 n2 n3 m ns ha hx hh h13 hf hns h
        have e : Zjj m.list = ns := by rw [hns]; simp [Zjj, Zhu, List.map_map, Function.comp_def]
        rw [hw]
        simp only
        by_cases hc : l5 = [] ∧ m.right = true
        · rw [if_pos hc, if_pos hc]; simp only [e]
        · rw [if_neg hc, if_neg hc]
    · rw [if_neg h13]
      exact w17_big a xs l4 n0 n1 n2 n3 ha hx hh (by omega) h
end Go.Abs
namespace Go.Abs
open Go Go.Proofs
theorem stp_eq (s : BitVec 32) (b : Bool) : stp s b = ((s <<< 1) ^^^ (if b then 1#32 else 0#32)) ^^^ (if s.msb then 1947962583#32 else 0#32) := by
  have h1 : (s <<< 1) + (if b then 1#32 else 0#32) = (s <<< 1) ^^^ (if b then 1#32 else 0#32) := by
    cases b
    · simp
    · have : (s <<< 1) &&& 1#32 = 0#32 := by
        apply BitVec.eq_of_getLsbD_eq
        intro i hi
        by_cases h : i = 0
        · subst h; simp
        · simp [h]
      simp only [if_true]
      rw [BitVec.add_eq_or_of_and_eq_zero _ _ this]
      apply BitVec.eq_of_getLsbD_eq
      intro i hi
      by_cases h : i = 0
      · subst h; simp
      · simp [h]
  have h2 : (-(s >>> 31)) &&& 1947962583#32 = if s.msb then 1947962583#32 else 0#32 := by
    have hs := s.isLt
    have e : s >>> 31 = if s.msb then 1#32 else 0#32 := by
      apply BitVec.eq_of_toNat_eq
      rw [BitVec.msb_eq_decide]
      simp only [BitVec.toNat_ushiftRight, Nat.shiftRight_eq_div_pow]
      by_cases h : 2 ^ (32 - 1) ≤ s.toNat
      · simp only [h, decide_true, if_true]; simp at h ⊢; omega
      · simp only [h, decide_false, Yav, if_false]; simp at h ⊢; omega
    rw [e]
    cases s.msb <;> decide
  rw [stp, h1, h2]
theorem stp_xor (s t : BitVec 32) (a b : Bool) : stp (s ^^^ t) (a ^^ b) = stp s a ^^^ stp t b := by
  simp only [stp_eq, BitVec.shiftLeft_xor_distrib, BitVec.msb_xor]
  apply BitVec.eq_of_getLsbD_eq
  intro i hi
  simp only [BitVec.getLsbD_xor]
  generalize (s <<< 1).getLsbD i = x
  generalize (t <<< 1).getLsbD i = y
  cases s.msb <;> cases t.msb <;> cases a <;> cases b <;> simp <;> cases x <;> cases y <;> simp <;> generalize (1947962583#32).getLsbD i = p <;> generalize decide (i = 0) = q <;> cases p <;> cases q <;> rfl
def xorL (a b : List Bool) : List Bool := List.zipWith (fun x y => x ^^ y) a b
theorem fold_xor : ∀ (l m : List Bool) (s t : BitVec 32), l.length = m.length → (xorL l m).foldl stp (s ^^^ t) = l.foldl stp s ^^^ m.foldl stp t := by
  intro l
  induction l with
  | nil => intro m s t h; cases m with
    | nil => rfl
    | cons y m => simp at h
  | cons x l ih => intro m s t h; cases m with
    | nil => simp at h
    | cons y m =>
      simp only [xorL, List.zipWith_cons_cons, Ybn, stp_xor]
      exact ih m _ _ (by simpa using h)
theorem fold_zero (n : Nat) : (Yae n false).foldl stp 0#32 = 0#32 := by
  induction n with
  | zero => rfl
  | succ n ih => rw [List.replicate_succ, Ybn, show stp 0#32 false = 0#32 by decide]; exact ih
theorem stp_inj {s : BitVec 32} (h : stp s false = 0#32) : s = 0#32 := by
  rw [stp_eq] at h
  simp only [Yav, if_false, BitVec.xor_zero] at h
  have h0 := congrArg (fun v => v.getLsbD 0) h
  have hm : s.msb = false := by
    cases hm : s.msb with
    | false => rfl
    | true => rw [hm] at h0; simp at h0
  rw [hm] at h
  simp only [Yav, if_false, BitVec.xor_zero] at h
  apply BitVec.eq_of_toNat_eq
  have h1 := congrArg BitVec.toNat h
  rw [BitVec.msb_eq_decide] at hm
  have hs := s.isLt
  simp [Nat.shiftLeft_eq] at h1 hm ⊢
  omega
theorem fold_inj (n : Nat) {s : BitVec 32} (h : (Yae n false).foldl stp s = 0#32) : s = 0#32 := by
  induction n generalizing s with
  | zero => exact h
  | succ n ih => rw [List.replicate_succ, Ybn] at h; exact stp_inj (ih h)
def numB (n : Nat) (l : List Bool) : Nat := l.foldl (fun n b => 2 * n + b.toNat) n
theorem stp_num {s : BitVec 32} {b : Bool} (h : s.toNat < 2147483648) : (stp s b).toNat = 2 * s.toNat + b.toNat := by
  have hm : s.msb = false := by rw [BitVec.msb_eq_decide]; simp; omega
  have e : stp s b = (s <<< 1) + (if b then 1#32 else 0#32) := by
    have h2 : (-(s >>> 31)) &&& 1947962583#32 = 0#32 := by
      have : s >>> 31 = 0#32 := by
        apply BitVec.eq_of_toNat_eq
        simp [Nat.shiftRight_eq_div_pow]; omega
      rw [this]; decide
    rw [stp, h2, BitVec.xor_zero]
  rw [e]
  cases b <;> simp [Nat.shiftLeft_eq] <;> omega
theorem fold_num : ∀ (l : List Bool) (s : BitVec 32), (s.toNat + 1) * 2 ^ l.length ≤ 4294967296 → (l.foldl stp s).toNat = numB s.toNat l := by
  intro l
  induction l with
  | nil => intro s _; rfl
  | cons b l ih =>
    intro s h
    rw [Yap, Nat.pow_succ] at h
    have hp : 1 ≤ 2 ^ l.length := Nat.one_le_two_pow
    have h1 : (s.toNat + 1) * 2 ≤ 4294967296 := by
      refine Nat.le_trans ?_ h
      rw [Nat.mul_comm (2 ^ l.length) 2, ← Nat.mul_assoc]
      exact Nat.le_mul_of_pos_right _ hp
    have hb : b.toNat ≤ 1 := by cases b <;> decide
    have e := stp_num (s := s) (b := b) (by omega)
    rw [Ybn, ih _ (by
      rw [e]
      refine Nat.le_trans (Nat.mul_le_mul_right _ (show 2 * s.toNat + b.toNat + 1 ≤ (s.toNat + 1) * 2 by omega)) ?_
      rw [Nat.mul_assoc, Nat.mul_comm 2]; exact h), e]
    rfl
theorem bits8_eq (x : UInt8) : Zmo x = [x.toNat.testBit 7, x.toNat.testBit 6, x.toNat.testBit 5, x.toNat.testBit 4, x.toNat.testBit 3, x.toNat.testBit 2, x.toNat.testBit 1, x.toNat.testBit 0] := by
  have key : ∀ n : Fin 256, Zmo (UInt8.ofNat n.val) = [n.val.testBit 7, n.val.testBit 6, n.val.testBit 5, n.val.testBit 4, n.val.testBit 3, n.val.testBit 2, n.val.testBit 1, n.val.testBit 0] := by decide +kernel
  have := key ⟨x.toNat, x.toNat_lt⟩
  simpa using this
theorem num8 (n : Nat) (x : UInt8) : numB n (Zmo x) = 256 * n + x.toNat := by
  have key : ∀ n : Fin 256, numB 0 (Zmo (UInt8.ofNat n.val)) = n.val := by decide +kernel
  have h0 := key ⟨x.toNat, x.toNat_lt⟩
  simp only [UInt8.ofNat_toNat] at h0
  rw [bits8_eq] at h0 ⊢
  simp only [numB, Ybn, Ybl] at h0 ⊢
  omega
theorem phi_tail (v : BitVec 32) : (Zfr (Zlh v)).foldl stp 0#32 = v := by
  apply BitVec.eq_of_toNat_eq
  have hl : (Zfr (Zlh v)).length = 32 := by simp [Zfr, Zlh, Zmo]
  rw [fold_num _ _ (by rw [hl]; decide)]
  have hv := v.isLt
  have e : ∀ (n : Nat) (l m : List Bool), numB n (l ++ m) = numB (numB n l) m := fun n l m => by simp [numB, List.foldl_append]
  simp only [Zfr, Zlh, List.flatMap_cons, List.flatMap_nil, List.append_nil, e, num8]
  simp [Nat.shiftRight_eq_div_pow]
  omega
theorem Zuh : Zfr [0, 0, 0, 0] = Yae 32 false := by decide +kernel
theorem Zrw (a b : List UInt8) : Zfr (a ++ b) = Zfr a ++ Zfr b := by simp [Zfr]
theorem xorL_zero : ∀ l : List Bool, xorL (Yae l.length false) l = l := by
  intro l
  induction l with
  | nil => rfl
  | cons x l ih => simp only [Yap, List.replicate_succ, xorL, List.zipWith_cons_cons, Bool.false_xor] at ih ⊢; rw [ih]
theorem full_zero (M : List UInt8) : (Zfr (M ++ Zlh (crc M))).foldl stp 4294967295#32 = 0#32 := by
  have hl : (Zfr (Zlh (crc M))).length = 32 := by simp [Zfr, Zlh, Zmo]
  have h1 := xorL_zero (Zfr (Zlh (crc M)))
  rw [hl] at h1
  have h2 := fold_xor (Yae 32 false) (Zfr (Zlh (crc M))) ((Zfr M).foldl stp 4294967295#32) 0#32 (by simp [hl])
  rw [h1, BitVec.xor_zero, phi_tail] at h2
  have h3 : crc M = (Yae 32 false).foldl stp ((Zfr M).foldl stp 4294967295#32) := by
    rw [crc, Zrw, List.foldl_append, Zuh]
  rw [Zrw, List.foldl_append, h2, ← h3, BitVec.xor_self]
theorem Zu9 {c : List UInt8} {k : Nat} (h : Zh6 c k = true) : (Zfr c).foldl stp 4294967295#32 = 0#32 := by
  simp only [Zh6, Bool.and_eq_true, decide_eq_true_eq] at h
  have := full_zero (c.take (4 + k))
  rw [← h.2.2, List.take_append_drop] at this
  exact this
theorem num_pos : ∀ (l : List Bool) (n : Nat), (0 < n ∨ true ∈ l) → 0 < numB n l := by
  intro l
  induction l with
  | nil => intro n h; simpa [numB] using h
  | cons b l ih =>
    intro n h
    simp only [numB, Ybn]
    refine ih _ ?_
    rcases h with h | h
    · left; omega
    · rcases List.mem_cons.1 h with h | h
      · subst h; left; simp
      · right; exact h
theorem burst_ne (a b : Nat) (w : List Bool) (hw : w.length = 32) (ht : true ∈ w) : (Yae a false ++ w ++ Yae b false).foldl stp 0#32 ≠ 0#32 := by
  rw [List.foldl_append, List.foldl_append, fold_zero]
  intro h
  have h1 := fold_inj b h
  have h2 := fold_num w 0#32 (by rw [hw]; decide)
  rw [h1] at h2
  have := num_pos w 0 (.inr ht)
  simp at h2; omega
theorem burst_frame {c c' : List UInt8} {k a b : Nat} {w : List Bool} (hok : Zh6 c k = true) (hw : w.length = 32) (ht : true ∈ w) (hl : a + 32 + b = (Zfr c).length)
    (he : Zfr c' = xorL (Zfr c) (Yae a false ++ w ++ Yae b false)) : Zh6 c' k = false := by
  cases h : Zh6 c' k with
  | false => rfl
  | true =>
    have h1 := Zu9 hok
    have h2 := Zu9 h
    have h3 := fold_xor (Zfr c) (Yae a false ++ w ++ Yae b false) 4294967295#32 0#32 (by simp; omega)
    rw [← he, BitVec.xor_zero, h1, h2, BitVec.zero_xor] at h3
    exact absurd h3.symm (burst_ne a b w hw ht)
end Go.Abs
namespace Go.Abs
open Go Go.Proofs
def flip1 (c : List UInt8) (j : Nat) : List UInt8 := c.set (j / 8) (c.getD (j / 8) 0 ^^^ UInt8.ofNat (128 / 2 ^ (j % 8)))
def Zje (c : List UInt8) (pos by_ : Nat) : Nat → List UInt8
  | 0 => c
  | i + 1 => if by_.testBit i then flip1 (Zje c pos by_ i) (pos + i) else Zje c pos by_ i
theorem flip1_len {c : List UInt8} {j : Nat} : (flip1 c j).length = c.length := by simp [flip1]
theorem Zt0 {c : List UInt8} {pos by_ n : Nat} : (Zje c pos by_ n).length = c.length := by
  induction n with
  | zero => rfl
  | succ n ih => simp only [Zje]; split <;> simp [flip1_len, ih]
theorem Zqy {c : List UInt8} {pos n : Nat} : Zje c pos 0 n = c := by
  induction n with
  | zero => rfl
  | succ n ih => simp [Zje, ih]
theorem Zo5 {x : UInt8} : (Zmo x).length = 8 := rfl
theorem Zql {c : List UInt8} : (Zfr c).length = 8 * c.length := by
  induction c with
  | nil => rfl
  | cons x c ih => simp only [Zfr, List.flatMap_cons, List.length_append, Zo5, Yap] at ih ⊢; omega
theorem bits_get (c : List UInt8) (j : Nat) : (Zfr c)[j]? = (c[j / 8]?).bind fun x => (Zmo x)[j % 8]? := by
  induction c generalizing j with
  | nil => simp [Zfr]
  | cons x c ih =>
    simp only [Zfr, List.flatMap_cons] at ih ⊢
    by_cases h : j < 8
    · rw [List.getElem?_append_left (by rw [Zo5]; exact h), show j / 8 = 0 by omega, show j % 8 = j by omega]
      rfl
    · rw [List.getElem?_append_right (by rw [Zo5]; omega), Zo5, ih, show j / 8 = (j - 8) / 8 + 1 by omega, show (j - 8) % 8 = j % 8 by omega, Yam]
theorem bits8_flip (x : UInt8) (r : Nat) (hr : r < 8) : Zmo (x ^^^ UInt8.ofNat (128 / 2 ^ r)) = (Zmo x).modify r (!·) := by
  have key : ∀ n : Fin 256, ∀ r : Fin 8, Zmo (UInt8.ofNat n.val ^^^ UInt8.ofNat (128 / 2 ^ r.val)) = (Zmo (UInt8.ofNat n.val)).modify r.val (!·) := by decide +kernel
  have := key ⟨x.toNat, x.toNat_lt⟩ ⟨r, hr⟩
  simpa using this
theorem bits_flip {c : List UInt8} {j : Nat} (hj : j < 8 * c.length) (i : Nat) : (Zfr (flip1 c j))[i]? = if i = j then ((Zfr c)[i]?).map (!·) else (Zfr c)[i]? := by
  have hq : j / 8 < c.length := by omega
  rw [bits_get, bits_get, flip1]
  by_cases h8 : j / 8 = i / 8
  · rw [← h8, List.getElem?_set_self hq]
    have hx : c[j / 8]? = some (c[j / 8]'hq) := List.getElem?_eq_getElem hq
    have hd : c.getD (j / 8) 0 = c[j / 8]'hq := by rw [List.getD_eq_getElem?_getD, hx]; rfl
    rw [hd, hx]
    simp only [Yau, bits8_flip _ _ (Nat.mod_lt j (by decide)), List.getElem?_modify]
    by_cases h : i = j
    · subst h; simp
    · have hne : ¬ j % 8 = i % 8 := by omega
      simp only [if_neg h, hne, if_false]
      cases (Zmo (c[j / 8]'hq))[i % 8]? <;> rfl
  · rw [List.getElem?_set_ne h8, if_neg (show ¬ i = j by intro h; subst h; exact h8 rfl)]
def pat (L pos by_ n : Nat) : List Bool := (List.range L).map fun j => decide (pos ≤ j) && (decide (j < pos + n) && by_.testBit (j - pos))
theorem Zrf (a b : List Bool) (i : Nat) : (xorL a b)[i]? = match a[i]?, b[i]? with | some x, some y => some (x ^^ y) | _, _ => none := by
  simp only [xorL, List.getElem?_zipWith]
  cases a[i]? <;> cases b[i]? <;> rfl
theorem bits_flips (c : List UInt8) (pos by_ n : Nat) (h : pos + n ≤ 8 * c.length) : Zfr (Zje c pos by_ n) = xorL (Zfr c) (pat (8 * c.length) pos by_ n) := by
  apply List.ext_getElem?
  intro i
  induction n with
  | zero =>
    rw [Zrf, pat, List.getElem?_map]
    by_cases hi : i < 8 * c.length
    · rw [Yc0 hi]
      have : ¬ (pos ≤ i ∧ i < pos + 0) := by omega
      have e : (decide (pos ≤ i) && (decide (i < pos + 0) && by_.testBit (i - pos))) = false := by
        by_cases h1 : pos ≤ i
        · have : decide (i < pos + 0) = false := by simp; omega
          rw [this]; simp
        · simp [h1]
      rw [List.getElem?_eq_getElem (show i < (Zfr c).length by rw [Zql]; exact hi)]
      simp only [Ya2, e, Bool.xor_false, Zje]
      exact List.getElem?_eq_getElem (show i < (Zfr c).length by rw [Zql]; exact hi)
    · rw [List.getElem?_eq_none (by rw [Zql]; simp [Zje]; omega), List.getElem?_eq_none (by rw [Zql]; omega)]
  | succ n ih =>
    have ih := ih (by omega)
    have e : ∀ v : Bool, (Zje c pos by_ (n + 1)) = if by_.testBit n then flip1 (Zje c pos by_ n) (pos + n) else Zje c pos by_ n := fun _ => rfl
    rw [e true]
    have hp : (pat (8 * c.length) pos by_ (n + 1))[i]? = if i = pos + n ∧ i < 8 * c.length then some (by_.testBit n) else (pat (8 * c.length) pos by_ n)[i]? := by
      simp only [pat, List.getElem?_map]
      by_cases hi : i < 8 * c.length
      · rw [Yc0 hi]
        simp only [Ya2]
        by_cases hin : i = pos + n
        · rw [if_pos ⟨hin, hi⟩]
          subst hin
          have h1 : decide (pos ≤ pos + n) = true := by simp
          have h2 : decide (pos + n < pos + (n + 1)) = true := by simp
          rw [h1, h2, show pos + n - pos = n by omega]; rfl
        · rw [if_neg (by intro h; exact hin h.1)]
          congr 3
          by_cases h1 : i < pos + n
          · simp [h1, show i < pos + (n + 1) by omega]
          · simp [h1, show ¬ i < pos + (n + 1) by omega]
      · rw [if_neg (by intro h; exact hi h.2)]
        rw [List.getElem?_eq_none (by simp; omega)]; rfl
    have hp0 : i = pos + n → (pat (8 * c.length) pos by_ n)[i]? = some false := by
      intro hin
      subst hin
      simp only [pat, List.getElem?_map]
      rw [Yc0 (by omega)]
      simp
    rw [Zrf, hp]
    cases hb : by_.testBit n with
    | false =>
      rw [if_neg (by simp), ih, Zrf]
      by_cases hin : i = pos + n
      · rw [hp0 hin, if_pos ⟨hin, by omega⟩]
      · rw [if_neg (by intro h; exact hin h.1)]
    | true =>
      rw [if_pos rfl, bits_flip (by rw [Zt0]; omega), ih, Zrf]
      by_cases hin : i = pos + n
      · rw [if_pos hin, hp0 hin, if_pos ⟨hin, by omega⟩]
        cases (Zfr c)[i]? with
        | none => rfl
        | some x => simp
      · rw [if_neg hin, if_neg (by intro h; exact hin h.1)]
theorem pat_eq (L pos by_ : Nat) (h : pos + 32 ≤ L) : pat L pos by_ 32 = Yae pos false ++ (List.range 32).map by_.testBit ++ Yae (L - pos - 32) false := by
  apply List.ext_getElem?
  intro i
  simp only [pat, List.getElem?_map]
  by_cases h1 : i < pos
  · rw [Ybv, List.getElem?_append_left (by simpa using h1), Yc0 (by omega), List.getElem?_replicate, if_pos h1]
    simp; omega
  · by_cases h2 : i < pos + 32
    · rw [Ybv, List.getElem?_append_right (by simp; omega), List.getElem?_append_left (by simp; omega), Yc0 (by omega), List.getElem?_map, List.length_replicate, Yc0 (by omega)]
      simp [h2, show pos ≤ i by omega]
    · by_cases h3 : i < L
      · rw [List.getElem?_append_right (by simp; omega), List.getElem?_replicate, if_pos (by simp; omega), Yc0 h3]
        simp [h2]
      · rw [List.getElem?_eq_none (by simp; omega), List.getElem?_eq_none (by simp; omega)]; rfl
theorem pat_any {by_ : Nat} (h0 : by_ ≠ 0) (h : by_ < 4294967296) : true ∈ (List.range 32).map by_.testBit := by
  obtain ⟨i, hi⟩ := Nat.exists_testBit_of_ne_zero h0
  refine List.mem_map.2 ⟨i, List.mem_range.2 ?_, hi⟩
  rcases Nat.lt_or_ge i 32 with h1 | h1
  · exact h1
  · exfalso
    have h2 : 2 ^ 32 ≤ 2 ^ i := Nat.pow_le_pow_right (by decide) h1
    rw [Nat.testBit_lt_two_pow (by omega)] at hi
    exact absurd hi (by simp)
theorem flips_frame {c : List UInt8} {k pos by_ : Nat} (hok : Zh6 c k = true) (h0 : by_ ≠ 0) (h : by_ < 4294967296) (hp : pos + 32 ≤ 8 * c.length) : Zh6 (Zje c pos by_ 32) k = false := by
  refine burst_frame (a := pos) (b := 8 * c.length - pos - 32) hok (by simp) (pat_any h0 h) (by rw [Zql]; omega) ?_
  rw [bits_flips c pos by_ 32 hp, pat_eq _ _ _ hp]
end Go.Abs
