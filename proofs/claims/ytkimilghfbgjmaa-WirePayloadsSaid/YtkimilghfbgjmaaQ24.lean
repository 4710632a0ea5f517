/-
  WIRE: the reader, pairs. WIRE: a message's head, read. WIRE: a deferred call. WIRE: Read, what has no more than a head. WIRE: Read, what has no more than a head. WIRE: what is put is taken, number by number. WIRE: one datagram, one payload. No condition.
-/
import Derived.Test.YtkimilghfbgjmaaQ23
import Derived.Test.YtkimilghfbgjmaaQ20

open List renaming any_cons → Yax, any_nil → Yay, append_assoc → Ybv, append_nil → Yaf, cons_append → Yaj, drop_succ_cons → Yb7, drop_zero → Yb8, getD_cons_succ → Yak, getD_cons_zero → Yal, getElem?_cons_succ → Yam, getElem?_cons_zero → Yan, getElem?_toArray → Yao, length_cons → Yap, length_nil → Yaq, map_cons → Ybi, map_nil → Yba, nil_append → Yar, replicate → Yae, set_cons_succ → Yas, set_cons_zero → Yat, take_succ_cons → Ybc, take_zero → Ybd
open Option renaming bind_some → Yau, map_some → Ya2
open Bool renaming false_eq_true → Yav, or_self → Yb3
open Nat renaming add_zero → Yb4, le_refl → Yab, succ_ne_zero → Yb5, zero_add → Yaw
namespace Go.Abs
open Go Go.Proofs
set_option maxRecDepth 10000
set_option maxHeartbeats 4000000
structure ItemV where
  key : List UInt8
  val : Nat
  ver : Nat
  gone : Bool
def parP (l : List UInt8) : Option (ItemV × List UInt8) := match Znh l with
  | some (s, r) => match parN r with
    | some (v, r) => match parN r with
      | some (n, r) => match parB r with
        | some (g, r) => some (⟨s, v, n, g⟩, r)
        | none => none
      | none => none
    | none => none
  | none => none
theorem Zpm {l s r : List UInt8} (h : Znh l = some (s, r)) : r.length ≤ l.length := by
  cases l with
  | nil => simp [Znh] at h
  | cons m ys =>
    simp only [Znh] at h
    split at h
    · cases h
    · simp at h; obtain ⟨_, rfl⟩ := h; simp; omega
theorem hset0' {H l : List O} {a o : O} {n : Nat} (hl : H.length = n) : (H ++ a :: l).set n o = H ++ o :: l := by subst hl; exact Zet
theorem BadR.app {f : FuncId} {H ex : List O} {p : Nat} (h : BadR f (H ++ ex) p) (hp : p < H.length) : ∃ d', (∀ n, Fit n d') ∧ wc f [.ptr p 0] (H ++ ex) = some (.pan ferr, H.set p (.cells [d']) ++ ex) := by
  obtain ⟨d', h1, h2⟩ := h
  exact ⟨d', h1, by rw [h2, Zlj hp]⟩
theorem gc_one {H ex : List O} {p : Nat} {o : O} {d d' : D} (hp : p < H.length) (hd : Fit H.length d) (hd' : ∀ n, Fit n d') : gc H.length H (H.set p (.cells [d']) ++ ex) d = H.set p (.cells [d']) :=
  gc_set hd (List.getElem?_eq_getElem hp) (.cells _ (by simp [hd']))
section
variable (H : List O) (p : Nat) (l : List UInt8) (hp : Zbn H p = some [rdC l]) (hl : l.length ≤ 100000)
  include hp hl
theorem r65_ok {x : ItemV} {rest : List UInt8} (ht : parP l = some (x, rest)) : wc 65 [.ptr p 0] H = some (.val (.agg (Zgi (BA x.key) x.val x.ver x.gone)), H.set p (.cells [rdC rest])) := by
  obtain ⟨hlt, hpe⟩ := Zex hp
  unfold parP at ht
  split at ht
  · rename_i s r1 q1
    split at ht
    · rename_i v r2 q2
      split at ht
      · rename_i n r3 q3
        split at ht
        · rename_i g r4 q4
          simp only [Option.some.injEq, Prod.mk.injEq] at ht
          obtain ⟨rfl, rfl⟩ := ht
          have b1 := Zpm q1
          have b2 := Zf1 q2
          have b3 := Zf1 q3
          have hlt1 : ∀ d : D, p < (H.set p (.cells [d])).length := fun d => by simpa using hlt
          have h1 := fun I => r67_ok (H ++ [I]) p l (by rw [Zfu hlt]; exact hp) hl q1
          have h2 := fun I => Zi9 (H.set p (.cells [rdC r1]) ++ [I]) p r1 (by rw [Zfu (hlt1 _)]; exact Zfq hlt) (by omega) q2
          have h3 := fun I => Zi9 (H.set p (.cells [rdC r2]) ++ [I]) p r2 (by rw [Zfu (hlt1 _)]; exact Zfq hlt) (by omega) q3
          have h4 := fun I => r63_ok (H.set p (.cells [rdC r3]) ++ [I]) p r3 (by rw [Zfu (hlt1 _)]; exact Zfq hlt) (by omega) q4
          have hgc := fun ex => gc_one (H := H) (ex := ex) (p := p) (o := .dead) (d := .agg (Zgi (BA s) v n g)) (d' := rdC r4) hlt (.agg _ (by simp [Zgi, Zbr])) (fun n => Zp0)
          simp only [Zlj hlt, Zlj (hlt1 _), List.set_set] at h1 h2 h3 h4
          simp only [Zgi] at hgc ⊢
          have hcv : ∀ i, wcv 65 i = [] := fun _ => rfl
          have hres : Try.f65.results.toList = [ResultVar.cell 2 24] := rfl
          rw [wc, Zbm rfl Try.func65 rfl]
          simp only [Zbj, Yap, Yaq, Nat.reduceAdd, Nat.reduceSub, Yae, Yaj, Yar, Zai, Zb2, Za3, Zae, Zan, Zbf, Zbg, Za9, Zcf, Zbq, Yam, Yan, Yau, Nat.reduceLeDiff, ne_eq, reduceCtorEq, not_false_eq_true, implies_true, Yav, Ya2, Yas, Yat, Yak, Yal, Zau, Zbu, Zb5, Yax, Yay, Zb7, Bool.or_false, ↓reduceIte, Zd4, Zbb, Za5, Za2, Zaf, Zab, Zaq, Zah, Zb3, Zad, Zac, Zde, Zav, and_self, Yaf, Zbk, Za8, Zba, Zb9, Zb1, Zb0, Zc9, Zb8, Zcl, Zbt, Zco, Ybc, Ybd, Yb7, Yb8, Zaa, Zaj, Yb3, Yb4, Yaw, Yb5, Yab, sz3, sz4, sz9, sz24, ag24, st24, Za1 (hcv _), Try.ntmps65, hres, zo24, h1, h2, h3, h4, hset0', Zqg, List.length_set, hgc, back, Zci, taken, Zbi, Zdj, beq_self_eq_true, Nat.reduceBEq]
        · cases ht
      · cases ht
    · cases ht
  · cases ht
theorem r65_bad (ht : parP l = none) : BadR 65 H p := by
  obtain ⟨hlt, hpe⟩ := Zex hp
  have hlt1 : ∀ d : D, p < (H.set p (.cells [d])).length := fun d => by simpa using hlt
  have hgc := fun (ex : List O) (d' : D) (hd : ∀ n, Fit n d') => gc_one (H := H) (ex := ex) (p := p) (o := .dead) (d := ferr) (d' := d') hlt (.e _) hd
  unfold parP at ht
  cases q1 : Znh l with
  | none =>
    have b := fun I => (r67_bad (H ++ [I]) p l (by rw [Zfu hlt]; exact hp) hl q1).app hlt
    obtain ⟨d', hd, h1⟩ := b (.cells (Zgi { data := #[] } 0 0 false))
    refine ⟨d', hd, ?_⟩
    simp only [Zgi, ferr] at h1 hgc ⊢
    have hcv : ∀ i, wcv 65 i = [] := fun _ => rfl
    have hres : Try.f65.results.toList = [ResultVar.cell 2 24] := rfl
    rw [wc, Zbm rfl Try.func65 rfl]
    simp only [Zbj, Yap, Yaq, Nat.reduceSub, Yae, Yaj, Yar, Zai, Za3, Ze7, Zae, Zan, Zbf, Zbg, Za9, Zgz, ne_eq, reduceCtorEq, not_false_eq_true, implies_true, Yas, Yat, Yak, Yal, Zb5, ↓reduceIte, Za4, Zd4, Za2, Zaq, Zah, Zgs, Zdw, Zb0, Zb8, Yaw, Za1 (hcv _), Try.ntmps65, zo24, h1, hgc _ _ hd]
  | some z1 =>
  obtain ⟨s, r1⟩ := z1
  rw [q1] at ht
  simp only at ht
  have b1 := Zpm q1
  have h1 := fun I => r67_ok (H ++ [I]) p l (by rw [Zfu hlt]; exact hp) hl q1
  cases q2 : parN r1 with
  | none =>
    have b := fun I => (Znq (H.set p (.cells [rdC r1]) ++ [I]) p r1 (by rw [Zfu (hlt1 _)]; exact Zfq hlt) (by omega) q2).app (hlt1 _)
    obtain ⟨d', hd, h2⟩ := b (.cells (Zgi (BA s) 0 0 false))
    refine ⟨d', hd, ?_⟩
    simp only [Zlj hlt, List.set_set] at h1 h2
    simp only [Zgi, ferr] at h2 hgc ⊢
    have hcv : ∀ i, wcv 65 i = [] := fun _ => rfl
    have hres : Try.f65.results.toList = [ResultVar.cell 2 24] := rfl
    rw [wc, Zbm rfl Try.func65 rfl]
    simp only [Zbj, Yap, Yaq, Nat.reduceAdd, Nat.reduceSub, Yae, Yaj, Yar, Zai, Za3, Ze7, Zae, Zan, Zbf, Zbg, Za9, Zcf, Zbq, Zgz, Yan, Yau, Nat.reduceLeDiff, ne_eq, reduceCtorEq, not_false_eq_true, implies_true, Yav, Ya2, Yas, Yat, Yak, Yal, Zau, Zb5, Yax, Yay, ↓reduceIte, Zd4, Zbb, Za5, Za2, Zaf, Zab, Zaq, Zah, Zgs, Zdw, and_self, Zbk, Za8, Zba, Zb9, Zb1, Zb0, Zc9, Zb8, Zcl, Zco, Ybd, Yb7, Yb8, Zaa, Yb3, Yb4, Yaw, Yb5, sz9, st24, Za1 (hcv _), Try.ntmps65, zo24, h1, h2, hset0', Zqg, List.length_set, hgc _ _ hd, Zci, taken, Zbi, Zdj, Nat.reduceBEq]
  | some z2 =>
  obtain ⟨v, r2⟩ := z2
  rw [q2] at ht
  simp only at ht
  have b2 := Zf1 q2
  have h2 := fun I => Zi9 (H.set p (.cells [rdC r1]) ++ [I]) p r1 (by rw [Zfu (hlt1 _)]; exact Zfq hlt) (by omega) q2
  cases q3 : parN r2 with
  | none =>
    have b := fun I => (Znq (H.set p (.cells [rdC r2]) ++ [I]) p r2 (by rw [Zfu (hlt1 _)]; exact Zfq hlt) (by omega) q3).app (hlt1 _)
    obtain ⟨d', hd, h3⟩ := b (.cells (Zgi (BA s) 0 0 false))
    refine ⟨d', hd, ?_⟩
    simp only [Zlj hlt, Zlj (hlt1 _), List.set_set] at h1 h2 h3
    simp only [Zgi, ferr] at h3 hgc ⊢
    have hcv : ∀ i, wcv 65 i = [] := fun _ => rfl
    have hres : Try.f65.results.toList = [ResultVar.cell 2 24] := rfl
    rw [wc, Zbm rfl Try.func65 rfl]
    simp only [Zbj, Yap, Yaq, Nat.reduceAdd, Nat.reduceSub, Yae, Yaj, Yar, Zai, Za3, Ze7, Zae, Zan, Zbf, Zbg, Za9, Zcf, Zbq, Zgz, Yan, Yau, Nat.reduceLeDiff, ne_eq, reduceCtorEq, not_false_eq_true, implies_true, Yav, Ya2, Yas, Yat, Yak, Yal, Zau, Zb5, Yax, Yay, ↓reduceIte, Zd4, Zbb, Za5, Za2, Zaf, Zab, Zaq, Zah, Zgs, Zdw, and_self, Zbk, Za8, Zba, Zb9, Zb1, Zb0, Zc9, Zb8, Zcl, Zco, Ybd, Yb7, Yb8, Zaa, Yb3, Yb4, Yaw, Yb5, sz9, st24, Za1 (hcv _), Try.ntmps65, zo24, h1, h2, h3, hset0', Zqg, List.length_set, hgc _ _ hd, Zci, taken, Zbi, Zdj, Nat.reduceBEq]
  | some z3 =>
  obtain ⟨n, r3⟩ := z3
  rw [q3] at ht
  simp only at ht
  have b3 := Zf1 q3
  have h3 := fun I => Zi9 (H.set p (.cells [rdC r2]) ++ [I]) p r2 (by rw [Zfu (hlt1 _)]; exact Zfq hlt) (by omega) q3
  cases q4 : parB r3 with
  | none =>
    have b := fun I => (Zy5 (H.set p (.cells [rdC r3]) ++ [I]) p r3 (by rw [Zfu (hlt1 _)]; exact Zfq hlt) (by omega) q4).app (hlt1 _)
    obtain ⟨d', hd, h4⟩ := b (.cells (Zgi (BA s) v n false))
    refine ⟨d', hd, ?_⟩
    simp only [Zlj hlt, Zlj (hlt1 _), List.set_set] at h1 h2 h3 h4
    simp only [Zgi, ferr] at h4 hgc ⊢
    have hcv : ∀ i, wcv 65 i = [] := fun _ => rfl
    have hres : Try.f65.results.toList = [ResultVar.cell 2 24] := rfl
    rw [wc, Zbm rfl Try.func65 rfl]
    simp only [Zbj, Yap, Yaq, Nat.reduceAdd, Nat.reduceSub, Yae, Yaj, Yar, Zai, Za3, Ze7, Zae, Zan, Zbf, Zbg, Za9, Zcf, Zbq, Zgz, Yam, Yan, Yau, Nat.reduceLeDiff, ne_eq, reduceCtorEq, not_false_eq_true, implies_true, Yav, Ya2, Yas, Yat, Yak, Yal, Zau, Zb5, Yax, Yay, ↓reduceIte, Zd4, Zbb, Za5, Za2, Zaf, Zab, Zaq, Zah, Zgs, Zdw, and_self, Zbk, Za8, Zba, Zb9, Zb1, Zb0, Zc9, Zb8, Zcl, Zco, Ybc, Ybd, Yb7, Yb8, Zaa, Yb3, Yb4, Yaw, Yb5, sz3, sz9, st24, Za1 (hcv _), Try.ntmps65, zo24, h1, h2, h3, h4, hset0', Zqg, List.length_set, hgc _ _ hd, Zci, taken, Zbi, Zdj, Nat.reduceBEq]
  | some z4 => rw [q4] at ht; simp at ht
end
end Go.Abs
namespace Go.Abs
open Go Go.Proofs
set_option maxRecDepth 10000
set_option maxHeartbeats 4000000
theorem Zm1 {i o : Nat} : own0 (.ptr i o) = false := of_decide_eq_true rfl
theorem w32 (p : Nat) (h : List O) : wc 32 [.ptr p 0] h = some (.val (.func (.func 60) [] [.ptr h.length 0]), h ++ [.cells [.ptr p 0]]) := by
  have hcv : ∀ i, wcv 32 i = [] := fun _ => rfl
  have hres : Try.f32.results.toList = [ResultVar.tmp 2] := rfl
  rw [wc, Zbm rfl Try.func32 rfl]
  simp only [Zbj, Yap, Yaq, Nat.reduceSub, Yae, Yaj, Yar, Zai, Zb2, Za3, Zae, Zan, Za9, ne_eq, reduceCtorEq, not_false_eq_true, implies_true, Ya2, Yas, Yat, Yak, Yal, Zb5, Zcp, ↓reduceIte, Za0, Zdq, Zel, Za2, Zaf, Zap, Zec, Zdg, Zdi, Zb3, Zad, Zac, Zal, Zav, Option.some.injEq, Prod.mk.injEq, true_and, Zhw, Zij, Yaw, Za1 (hcv _), Try.ntmps32, hres]
  rw [Zu8]
  simp [Zrt, Zvy]
def Zek (q : Nat) : List (E × D) := [(.int .u8 4, .func (.func 62) [] [.ptr q 0]), (.int .u8 5, .func (.func 64) [] [.ptr q 0]), (.int .u8 6, .func (.func 66) [] [.ptr q 0]), (.int .u8 7, .func (.func 68) [] [.ptr q 0]), (.int .u8 10, .func (.func 70) [] [.ptr q 0]), (.int .u8 11, .func (.func 71) [] [.ptr q 0]), (.int .u8 12, .func (.func 72) [] [.ptr q 0])]
theorem w34 (p : Nat) (h : List O) : wc 34 [.ptr p 0] h = some (.val (.map (h.length + 1)), h ++ [.cells [.ptr p 0], .map (Zek h.length)]) := by
  have hcv : ∀ i, wcv 34 i = [] := fun _ => rfl
  have hres : Try.f34.results.toList = [ResultVar.tmp 2] := rfl
  rw [wc, Zbm rfl Try.func34 rfl]
  simp only [Zbj, Yap, Yaq, Nat.reduceSub, Yae, Yaj, Yar, Zai, Zb2, Za3, Zae, Zan, Za9, Zcf, Yam, Yan, ne_eq, reduceCtorEq, not_false_eq_true, implies_true, Ya2, Yas, Yat, Yak, Yal, Zb5, Zcp, Zfi, ↓reduceIte, Za4, Za0, Zdq, Zel, Zhv, Za2, Zaf, Zap, Zab, Zag, Zec, Zdg, Zam, Zb3, Zad, Zac, Zal, Zav, Option.some.injEq, Prod.mk.injEq, true_and, Zdh, hlen, Zin, hgetn, Zhw, Zij, Bool.and_true, Yaw, Za1 (hcv _), Try.ntmps34, hres, Zub, mp65, key5, Ztx, setD_nil, setD_ne, Int.reduceBEq, Ztz]
  rw [Zu8]
  · rfl
  · intro hf; cases hf; omega
structure Heads (l0 l4 : List UInt8) (n0 n1 n2 n3 : Nat) : Prop where
  ex : ∃ l1 l2 l3, parN l0 = some (n0, l1) ∧ parN l1 = some (n1, l2) ∧ parN l2 = some (n2, l3) ∧ parN l3 = some (n3, l4)
theorem w60 (h : List O) (cM cE lo : O) (l0 l4 : List UInt8) (n0 n1 n2 n3 : Nat) (z0 z1 z2 z3 : D) (hl : l0.length ≤ 100000) (hh : Heads l0 l4 n0 n1 n2 n3)
    (hr : ∀ (l : List UInt8) (hs : List D) (i : Nat) (n : Nat), i < 4 → hs.length = 4 → call Try.prog wpr wcv (.round (h.length + 5)) [.int .i64 (i : Int), .int .i64 (n : Int)] (h ++ [cM, cE, .cells [rdC l], .cells hs, .cells [.ptr (h.length + 2) 0], lo]) =
      some (.val (.bool true), h ++ [cM, cE, .cells [rdC l], .cells (hs.set i (.int .i64 (n : Int))), .cells [.ptr (h.length + 2) 0], lo])) :
    wc 60 [.func (.yield (h.length + 5)) [] [], .ptr (h.length + 4) 0] (h ++ [cM, cE, .cells [rdC l0], .cells [z0, z1, z2, z3], .cells [.ptr (h.length + 2) 0], lo]) =
      some (.val Zaw, h ++ [cM, cE, .cells [rdC l4], .cells [.int .i64 (n0 : Int), .int .i64 (n1 : Int), .int .i64 (n2 : Int), .int .i64 (n3 : Int)], .cells [.ptr (h.length + 2) 0], lo]) := by
  obtain ⟨l1, l2, l3, p0, p1, p2, p3⟩ := hh.ex
  have b0 := Zf1 p0
  have b1 := Zf1 p1
  have b2 := Zf1 p2
  have e0 := Zi9 (h ++ [cM, cE, .cells [rdC l0], .cells [z0, z1, z2, z3], .cells [.ptr (h.length + 2) 0], lo]) (h.length + 2) l0 (by simp [Zbn]) hl p0
  have e1 := Zi9 (h ++ [cM, cE, .cells [rdC l1], .cells [.int .i64 (n0 : Int), z1, z2, z3], .cells [.ptr (h.length + 2) 0], lo]) (h.length + 2) l1 (by simp [Zbn]) (by omega) p1
  have e2 := Zi9 (h ++ [cM, cE, .cells [rdC l2], .cells [.int .i64 (n0 : Int), .int .i64 (n1 : Int), z2, z3], .cells [.ptr (h.length + 2) 0], lo]) (h.length + 2) l2 (by simp [Zbn]) (by omega) p2
  have e3 := Zi9 (h ++ [cM, cE, .cells [rdC l3], .cells [.int .i64 (n0 : Int), .int .i64 (n1 : Int), .int .i64 (n2 : Int), z3], .cells [.ptr (h.length + 2) 0], lo]) (h.length + 2) l3 (by simp [Zbn]) (by omega) p3
  have r0 := hr l1 [z0, z1, z2, z3] 0 n0 (by omega) rfl
  have r1 := hr l2 [.int .i64 (n0 : Int), z1, z2, z3] 1 n1 (by omega) rfl
  have r2 := hr l3 [.int .i64 (n0 : Int), .int .i64 (n1 : Int), z2, z3] 2 n2 (by omega) rfl
  have r3 := hr l4 [.int .i64 (n0 : Int), .int .i64 (n1 : Int), .int .i64 (n2 : Int), z3] 3 n3 (by omega) rfl
  have w0 : IntKind.i64.wrap (0 + 1) = 1 := by decide
  have w1 : IntKind.i64.wrap (1 + 1) = 2 := by decide
  have w2 : IntKind.i64.wrap (2 + 1) = 3 := by decide
  have w3 : IntKind.i64.wrap (3 + 1) = 4 := by decide
  have c0 : ((0 : Nat) : Int) = 0 := rfl
  have c1 : ((1 : Nat) : Int) = 1 := rfl
  have c2 : ((2 : Nat) : Int) = 2 := rfl
  have c3 : ((3 : Nat) : Int) = 3 := rfl
  rw [c0] at r0; rw [c1] at r1; rw [c2] at r2; rw [c3] at r3
  simp only [Zdh, Yas, Yat] at e0 e1 e2 e3 r0 r1 r2 r3
  have hcv : ∀ i, wcv 60 i = [] := fun _ => rfl
  have hres : Try.f60.results.toList = [] := rfl
  rw [wc, Zbm rfl Try.func60 rfl]
  simp only [Zbj, Yap, Yaq, Nat.reduceAdd, Nat.reduceSub, Yae, Yaj, Yar, Zai, Zbw, Zfv, Zc5, Za7, Zak, Zao, Za3, Zeq, Zcd, Zer, Zdx, Ze2, Zae, Zan, Zbf, Zbg, Za9, Zbq, Yan, Yau, ne_eq, reduceCtorEq, not_false_eq_true, implies_true, Bool.not_true, Yav, Ya2, Yas, Yat, Yak, Yal, Zau, Zb5, Zcp, ↓reduceIte, Za4, Zea, Za0, Za6, Ze0, Za2, Zab, Zag, Zaq, Zah, Zam, Zdc, Zc6, Int.reduceLT, Zcz, Zbs, Zf4, Zfh, Zad, Zac, Zd9, Zbe, Zbk, Zcr, hlen, Za8, Zbt, Zaj, Yaw, Yab, Za1 (hcv _), Try.ntmps60, hres, Zp5, decide_true, decide_false, sz56, ag56, Zm1, e0, e1, e2, e3, Zhi, Zod, r0, r1, r2, r3, w0, w1, w2, w3, Ze6]
end Go.Abs
namespace Go.Abs
open Go Go.Proofs
set_option maxRecDepth 10000
set_option maxHeartbeats 4000000
section
variable {P : Program} {pr : FuncId → List D → Option D} {cv : FuncId → Nat → List Cv} {β : Type} {fn : Func} {h h' : List O} {tl : List D} {df : List (FuncId × List D)} {r : Rc} {g f : FuncId} {args : List D} {d : D} {s : St} {l : List Oper} {dst : Option Tmp} {ty : TypeId} {pos : String} {af : Array Edge} {gu : Option (Nat × Bool)}
theorem Zml {fo : Operand} {xs : Array Operand} {ats : Array TypeId} : exOp P l ⟨dst, .defer { callee := .value fo, args := xs, argTypes := ats }, ty, pos, af, gu⟩ s = match s.r with
      | .rnd _ => none
      | _ => match rd s fo, shs s xs.toList with
        | some (.func (.func g) first cap), some (ds, s1) => if (first ++ cap).any ownD then none else some (.val Zaw, { s1 with d := (g, first ++ ds ++ cap) :: s1.d })
        | _, _ => none := rfl
theorem exO_ta {x : Operand} {t0 t : TypeId} {ok : Bool} : exOp P l ⟨dst, .typeAssert x t0 t ok, ty, pos, af, gu⟩ s = match rd s x, P.underlying t with
    | some d, some u => if Zk4 u then none else
      match d with
        | .e (.iface t' v) => if t' = t then some (.val (if ok then .tup [.e v, .bool true] else .e v), s)
          else if ok then (Zhb P t).map fun z => (.val (.tup [z, .bool false]), s) else none
        | .e .nilif => if ok then (Zhb P t).map fun z => (.val (.tup [z, .bool false]), s) else none
        | _ => none
    | _, _ => none := rfl
noncomputable def kU (P : Program) (fn : Func) (h : List O) (tl : List D) (u : Option D) (r : Option (Out × List O)) : Option (Out × List O) :=
  match r with
  | some (.val _, h2) => Zqa P fn h u tl h2
  | some (.rcv _, h2) => Zqa P fn h none tl h2
  | _ => none
theorem undo_one {u : Option D} : (undo P pr cv [(g, args)] u h').bind (fun q => Zqa P fn h q.1 tl q.2) = kU P fn h tl u (call P pr cv (.dfn g u) args h') := by
  rw [undo]
  cases hc : call P pr cv (.dfn g u) args h' with
  | none => rfl
  | some q =>
    obtain ⟨o, h2⟩ := q
    cases o <;> simp [kU, Zrh]
theorem kF_ret1 : kF P pr cv fn h (.ret, ⟨tl, [(g, args)], r, h'⟩) = kU P fn h tl none (call P pr cv (.dfn g none) args h') := undo_one
theorem Zkr : kF P pr cv fn h (.pan d, ⟨tl, [(g, args)], r, h'⟩) = kU P fn h tl (some d) (call P pr cv (.dfn g (some d)) args h') := undo_one
theorem kU_val {u : Option D} {d' : D} : kU P fn h tl u (some (.val d', h')) = Zqa P fn h u tl h' := rfl
theorem Zng {u : Option D} {d' : D} : kU P fn h tl u (some (.rcv d', h')) = Zqa P fn h none tl h' := rfl
def rcU : Option D → Rc
  | some d => .avail d
  | none => .nil
theorem call_dfn {u : Option D} {c : Code} (h1 : P.funcs[f]? = some fn) (h2 : Zo4 fn = some c) (h3 : fn.results.isEmpty = true) :
    call P pr cv (.dfn f u) args h = kx P pr cv f c { t := Zbj fn args, d := [], r := rcU u, h := h } Zue := by
  rw [call.eq_def]; simp only [h1, h2, h3, if_true]
  cases u <;> rfl
theorem dfn_nil : Zue (.nrm, ⟨tl, [], .nil, h⟩) = some (.val Zaw, h) := rfl
theorem dfn_took : Zue (.nrm, ⟨tl, [], .took, h⟩) = some (.rcv Zaw, h) := rfl
theorem exB_rec_nil {ats : Array TypeId} : Zge P .recover ats [] ⟨tl, df, .nil, h⟩ = some (.val (.e .nilif), ⟨tl, df, .nil, h⟩) := rfl
theorem exB_rec_av {ats : Array TypeId} : Zge P .recover ats [] ⟨tl, df, .avail d, h⟩ = some (.val d, ⟨tl, df, .took, h⟩) := rfl
theorem binI_nil {t : TypeId} {ms : Array (String × TypeId)} (hu : P.underlying t = some (.interface ms)) : binD P .neq t (.e .nilif) (.e .nilif) true = some (.e (.bool false)) := by simp [binD, Zmi, hu]
theorem binI_some {t t' : TypeId} {x : E} {ms : Array (String × TypeId)} (hu : P.underlying t = some (.interface ms)) : binD P .neq t (.e (.iface t' x)) (.e .nilif) true = some (.e (.bool true)) := by simp [binD, Zmi, hu]
end
def msg0 : Msg := { kind := 0, call := 0, frm := 0, to := 0, key := 0, slow := false, done := false, place := 0, pred := 0, list := [], ikey := { data := #[] }, ival := 0, iver := 0, gone := false, code := 0 }
theorem Zlt : Zm7 Try.prog 27 [] = some (.agg (msg0.cs (.osl false true 0 []))) := by
  simp [Zm7, zo27, Try.underlying27, Zkt, sz3, sz4, sz5, sz22, sz24, sz25, Msg.cs, msg0]
theorem w30_no (a b : Nat) (H : List O) : call Try.prog wpr wcv (.dfn 30 none) [.ptr a 0, .ptr b 0] H = some (.val Zaw, H) := by
  have hcv : ∀ i, wcv 30 i = [] := fun _ => rfl
  have hres : Try.f30.results.toList = [] := rfl
  rw [call_dfn Try.func30 rfl rfl]
  simp only [Zbj, Yap, Yaq, Nat.reduceAdd, Nat.reduceSub, Yae, Yaj, Yar, Zai, Zbw, Za7, Zao, Za3, Zae, Zan, Zbd, Za9, ne_eq, reduceCtorEq, not_false_eq_true, implies_true, Ya2, Yas, Yat, Yak, Yal, Zau, Za4, Za0, Za6, Za2, Zab, Zag, Zjq, Yaw, Za1 (hcv _), Try.ntmps30, rcU, exB_rec_nil, Zcm, binI_nil Try.underlying20, dfn_nil]
theorem w30 (h ex : List O) (cM : List D) (e0 : D) (hM : cM.length = 15) : call Try.prog wpr wcv (.dfn 30 (some ferr)) [.ptr h.length 0, .ptr (h.length + 1) 0] (h ++ .cells cM :: .cells [e0] :: ex) =
    some (.rcv Zaw, h ++ .cells (msg0.cs (.osl false true 0 [])) :: .cells [.int .i64 12] :: ex) := by
  have e1 := Zlt
  simp only [Msg.cs] at e1
  have hM2 : (15 ≤ cM.length) := by omega
  have hM3 : List.drop 15 cM = [] := List.drop_of_length_le (by omega)
  have hcv : ∀ i, wcv 30 i = [] := fun _ => rfl
  have hres : Try.f30.results.toList = [] := rfl
  rw [call_dfn Try.func30 rfl rfl]
  simp only [Zbj, Yap, Yaq, Nat.reduceAdd, Nat.reduceSub, Yae, Yaj, Yar, Zai, Za7, Zak, Za3, Zae, Zan, Zbd, Za9, ne_eq, reduceCtorEq, not_false_eq_true, implies_true, Ya2, Yas, Yat, Yak, Yal, Zau, Za4, Za0, Za6, Za2, Zab, Zag, Zjq, Yaw, Za1 (hcv _), Try.ntmps30, rcU, ferr, exB_rec_av, Zcm, binI_some Try.underlying20]
  refine (Zed (l := Zv4) (by exact Zyf)).trans ?_
  simp only [Yap, Yaq, Nat.reduceAdd, Yar, Yao, Yam, Yan, Yau, ne_eq, reduceCtorEq, not_false_eq_true, implies_true, Bool.not_false, Yav, Ya2, Yas, Yat, Yak, Yal, Zau, Zbu, Yax, Yay, Zb7, Zd5, ↓reduceIte, Zdk, Zbb, Za2, Zab, Zaq, and_self, List.toList_toArray, Zdy, kd_l, Zc3, Zc2, Zc7, Zbc, Zbv, Zaz, Zd1, Zcv, Zby, Zbx, Zm3, Zhg, Op.operands, Zdn, List.foldl_nil, Yaf, Zar, Zbe, Zbk, Zcr, Zet, Zdh, Za8, Zb1, Zb0, Zc9, Zb8, Zcl, Zco, Ybd, Yb7, Yb8, Yba, Yb3, Yaw, Yab, Try.underlying25, sz25, sz27, hcv, kd_h, Zbz, Zes, Zgm, Zc1, Zce, excD_e, List.all_cons, List.all_nil, Bool.and_self, Zv4, e1, List.zip_nil_right, exO_ta, Zk4, Msg.cs, hM3, hM, dfn_took]
end Go.Abs
namespace Go.Abs
open Go Go.Proofs
set_option maxRecDepth 10000
set_option maxHeartbeats 4000000
theorem ix59 {k i : Nat} (h : i < 4) : Zeh Try.prog 59 (.ptr k 0) (.e (.int .i64 (i : Int))) = some (.ptr k i) := by
  unfold Zeh
  rw [Try.underlying59]
  simp only [sz3, adOf]
  rw [if_pos ⟨by omega, by omega, by omega⟩]
  simp [adD, Ad.add]
theorem Zqd {k : Nat} : Zeh Try.prog 59 (.ptr k 0) (.e (.int .i64 0)) = some (.ptr k 0) := ix59 (i := 0) (by omega)
theorem ix59_1 {k : Nat} : Zeh Try.prog 59 (.ptr k 0) (.e (.int .i64 1)) = some (.ptr k 1) := ix59 (i := 1) (by omega)
theorem ix59_2 {k : Nat} : Zeh Try.prog 59 (.ptr k 0) (.e (.int .i64 2)) = some (.ptr k 2) := ix59 (i := 2) (by omega)
theorem ix59_3 {k : Nat} : Zeh Try.prog 59 (.ptr k 0) (.e (.int .i64 3)) = some (.ptr k 3) := ix59 (i := 3) (by omega)
theorem Zqo {hs : List D} {i : Nat} {d : D} (h : i < hs.length) : List.take i hs ++ [d] ++ List.drop (i + 1) hs = hs.set i d := by
  rw [List.set_eq_take_append_cons_drop, if_pos h]; simp
theorem Zr2 {d : D} (h1 : cellsOf d = [d]) (h2 : notTup d = true) : Zm7 Try.prog 58 [(0, d)] = some (.agg [d]) := by
  simp only [Zm7, zo58, Try.underlying58]
  simp [sz31, Zkt, h1, h2, Zfg]
def Ze9 (n0 n1 n2 n3 : Nat) : Msg := { kind := n0, call := n1, frm := n2, to := n3, key := 0, slow := false, done := false, place := 0, pred := 0, list := [], ikey := { data := #[] }, ival := 0, iver := 0, gone := false, code := 0 }
theorem Zmj {cs : List D} : Zlo (.agg cs) = .agg (cs.map Zh7) := rfl
theorem Zo7 {n : Nat} : shrT (.hdr n) = .hdr n := rfl
theorem Zo8 {cs : List D} : shrT (.agg cs) = .agg (cs.map shr0) := rfl
theorem Zqw {n : Nat} : kep (.hdr n) = .hdr n := rfl
theorem Zqx {cs : List D} : kep (.agg cs) = .agg (cs.map kep0) := rfl
theorem Zo9 {n : Nat} : shr0 (.hdr n) = .hdr n := rfl
theorem Zob {n : Nat} : kep0 (.hdr n) = .hdr n := rfl
def lsD (l : List Nat) : D := match l with
  | [] => .osl false true 0 []
  | n :: l => .e (.sl (isE (Zhu (n :: l))))
theorem lsD_rd (l : List Nat) : Rd (lsD l) (isE (Zhu l)) := by cases l <;> first | exact Rd.osl | exact Rd.e
def lrD (l : List Nat) : D := match l with
  | [] => .osl false true 0 []
  | n :: l => .osl false false 1 (isE (Zhu (n :: l)))
theorem Zxa {x : E} : kep0 (.e x) = .e x := rfl
def fromR (n : Nat) : Code → Option Code
  | .seq (.region i a b) r => if i = n then some (.seq (.region i a b) r) else fromR n r
  | .seq a r => (fromR n a).or (fromR n r)
  | _ => none
noncomputable def tl17 : Option Code := Try.f17.body.bind (fromR 13)
theorem w17_tail (zs : List D) (m : Msg) (ns : List Nat) (l5 : List UInt8) (h ex : List O) (c : Code) (hc : tl17 = some c) (hm : m.list = Zhu ns) (hx5 : l5.length ≤ 100000) (hn : ns.length ≤ 1000) :
    kx Try.prog wpr wcv 17 c ⟨mkT [none, none, some (.ptr h.length 0), some (.ptr (h.length + 1) 0), some (.ptr (h.length + 2) 0), none, none, none, none, none, none, none, none, none, none, none, none, none, none, none, none, none, none, none, none, none, none, none, none, none, none, none, none, none, none, none, none, none, none, none, none, none, none, none, none, none, none, none, none, none, none, none, none, none, none, none] zs 0, [(30, [.ptr h.length 0, .ptr (h.length + 1) 0])], .no, h ++ .cells (m.cs (slN ns)) :: .cells [.int .i64 0] :: .cells [rdC l5] :: ex⟩ (kF Try.prog wpr wcv Try.f17 h) =
      some (.val (if l5 = [] ∧ m.right = true then .tup [.agg (m.cs (lrD ns)), .int .i64 0] else .tup [.agg (msg0.cs (.osl false true 0 [])), .int .i64 12]), h) := by
  have h25 := w25 m (lsD ns) (by rw [hm]; exact lsD_rd ns) (by rw [hm]; simp [Zhu]; omega)
  have h33t := w33 true
  have h33f := w33 false
  obtain rfl := Option.some.inj ((rfl : tl17 = some _).symm.trans hc)
  have l0 : ∀ H, len0 Try.prog 31 (.e (.sl (byE l5))) H = some l5.length := fun H => by rw [Zu4]; simp [byE]
  have hcv : ∀ i, wcv 17 i = [] := fun _ => rfl
  have hres : Try.f17.results.toList = [ResultVar.cell 2 27, ResultVar.cell 3 25] := rfl
  cases l5 with
  | cons b l5 =>
    have e1 : (((l5.length + 1 : Nat) : Int) == 0) = false := by simp; omega
    have e2 : (b :: l5 = []) = False := by simp
    have h30 := w30 h (.cells [rdX (b :: l5)] :: ex) (m.cs (slN ns)) (.int .i64 0) rfl
    simp only [ferr, rdX] at h30
    simp only [Yap] at l0
    simp only [Msg.cs, msg0] at h30
    simp only [Yap, Yaq, Nat.reduceAdd, Yar, Zai, Ze7, Zan, Zbd, Zbf, Zbg, Zas, Za9, Zgz, Ze8, St.put, Yao, Yam, Yan, Yau, Nat.reduceLT, ne_eq, reduceCtorEq, not_false_eq_true, implies_true, Bool.not_true, Yav, Ya2, Yas, Yat, Yak, Yal, Zau, Zb5, Yax, Yay, Zb7, Zd5, ↓reduceIte, Za6, Zat, Zbl, Za5, Za2, Zaf, Zbh, Zab, Zag, Zaq, Zah, Zam, Zax, Zb6, Zay, Zd0, Zad, Zac, Zde, Zd2, Zbr, Zcy, Zcx, Zfl, List.forall_mem_cons, List.not_mem_nil, false_imp_iff, and_self, Option.some.injEq, Zfe, mkT, Yaf, Zar, Zbe, Zbk, Zcr, Zdh, Za8, Zba, Zb9, Zb1, Zbt, Zb4, Ybc, Ybd, Yb7, Yb8, Zaa, Option.bind_eq_bind, Zaj, Yb3, Yb4, Yaw, Yb5, Option.pure_def, Yab, sz25, sz27, sz31, ag25, ag27, ag31, Za1 (hcv _), hres, st58, rdC, l0, e1, e2, h33f, Zkr, h30, Zng, back, Zci, taken, Zbi, Zdj, Zf5, Zhk, Msg.cs, msg0, false_and]
  | nil =>
    have e1 : (((0 : Nat) : Int) == 0) = true := by decide
    simp only [Yaq] at l0
    cases hr : m.right with
    | false =>
      rw [hr] at h25
      simp only [Msg.cs] at h25
      cases ns with
      | nil =>
        have h30 := w30 h (.cells [.osl false false 1 (byE [])] :: ex) (m.cs (.osl false true 0 [])) (.int .i64 0) rfl
        simp only [ferr, Msg.cs, msg0] at h30
        simp only [lsD] at h25
        simp only [Yap, Yaq, Nat.reduceAdd, Yar, Zai, Ze7, Zan, Zbd, Zbf, Zbg, Zas, Za9, Zbq, Zgz, Zch, Yao, Yam, Yan, Yau, Nat.reduceLT, ne_eq, reduceCtorEq, not_false_eq_true, implies_true, Yav, Ya2, Yas, Yat, Yak, Yal, Zau, Zbu, Zb5, Yax, Yay, Zb7, Zd5, ↓reduceIte, Za6, Zat, Zbl, Za5, Za2, Zaf, Zab, Zag, Zaq, Zah, Zam, Zb6, Zay, Zd0, Zad, Zac, Zde, Zd2, Zbr, Zcy, Zcx, Zfl, List.forall_mem_cons, List.not_mem_nil, false_imp_iff, and_self, Option.some.injEq, Zfe, mkT, Yaf, Zar, Zbe, Zbk, Zcr, Zdh, Za8, Zba, Zb9, Zb1, Zbt, Zb4, Ybc, Ybd, Yb7, Yb8, Zaa, Option.bind_eq_bind, Zaj, Yb3, Yb4, Yaw, Yb5, Option.pure_def, Yab, sz25, sz27, sz31, ag25, ag27, ag31, Za1 (hcv _), hres, st58, rdC, l0, e1, h33f, Zkr, h30, Zng, back, Zci, taken, Zbi, Zdj, Zf5, Zhk, Msg.cs, msg0, h25, slN, and_false]
      | cons n ns =>
        have h30 := w30 h (.cells [.osl false false 1 (byE [])] :: ex) (m.cs (.osl false false 1 (isE (Zhu (n :: ns))))) (.int .i64 0) rfl
        simp only [ferr, Msg.cs, msg0] at h30
        simp only [lsD] at h25
        simp only [Yap, Yaq, Nat.reduceAdd, Yar, Zai, Ze7, Zan, Zbd, Zbf, Zbg, Zas, Za9, Zbq, Zgz, Zch, Yao, Yam, Yan, Yau, Nat.reduceLT, ne_eq, reduceCtorEq, not_false_eq_true, implies_true, Yav, Ya2, Yas, Yat, Yak, Yal, Zau, Zbu, Zb5, Yax, Yay, Zb7, Zd5, Bool.or_false, ↓reduceIte, Za6, Zat, Zbl, Za5, Za2, Zaf, Zab, Zag, Zaq, Zah, Zam, Zb6, Zay, Zd0, Zad, Zac, Zde, Zd2, Zbr, Zcy, Zcx, Zfl, List.forall_mem_cons, List.not_mem_nil, false_imp_iff, and_self, Option.some.injEq, Zfm, Zfe, mkT, Yaf, Zar, Zbe, Zbk, Zcr, Zet, Zdh, Za8, Zba, Zb9, Zb1, Zbt, Zb4, Ybc, Ybd, Yb7, Yb8, Ybi, Yba, Zaa, Option.bind_eq_bind, Zaj, Yb3, Bool.or_true, Yb4, Yaw, Yb5, Option.pure_def, Yab, sz25, sz27, sz31, ag25, ag27, ag31, Za1 (hcv _), hres, st58, rdC, l0, e1, h33f, Zkr, h30, Zng, back, Zci, taken, Zbi, Zdj, Zf5, Zhk, Msg.cs, msg0, h25, slN, Zxa, and_false]
    | true =>
      rw [hr] at h25
      simp only [Msg.cs] at h25
      cases ns with
      | nil =>
        have h30 := fun H => w30_no h.length (h.length + 1) H
        simp only [lsD] at h25
        simp only [Yap, Yaq, Nat.reduceAdd, Yar, Zai, Zb2, Za3, Zae, Zan, Zbd, Zbf, Zbg, Zas, Za9, Zcf, Zbq, Zch, Yao, Yam, Yan, Yau, Nat.reduceLT, ne_eq, reduceCtorEq, not_false_eq_true, implies_true, Yav, Ya2, Yas, Yat, Yak, Yal, Zau, Zbu, Zb5, Yax, Yay, Zb7, Zd5, Bool.or_false, ↓reduceIte, Za6, Zat, Zbb, Zbl, Za5, Za2, Zaf, Zap, Zab, Zag, Zaq, Zah, Zam, Zb6, Zay, Zd0, Zad, Zac, Zde, Zd2, Zbr, Zcy, Zcx, Zfl, List.forall_mem_cons, List.not_mem_nil, false_imp_iff, and_self, Option.some.injEq, Zfe, mkT, Yaf, Zar, Zbe, Zbk, Zcr, Zet, Zdh, Za8, Zba, Zb9, Zb1, Zb0, Zc9, Zb8, Zcl, Zbt, Zco, Zb4, Ybc, Ybd, Yb7, Yb8, Zaa, Option.bind_eq_bind, Zaj, Yb3, Yb4, Yaw, Yb5, Option.pure_def, Yab, sz25, sz27, sz31, ag25, ag27, ag31, Za1 (hcv _), hres, st58, rdC, l0, e1, h33t, kF_ret1, h30, kU_val, back, Zci, taken, Zbi, Zdj, beq_self_eq_true, Nat.reduceBEq, Zf5, Zhk, Msg.cs, h25, slN, lrD]
      | cons n ns =>
        have h30 := fun H => w30_no h.length (h.length + 1) H
        simp only [lsD] at h25
        simp only [Yap, Yaq, Nat.reduceAdd, Yar, Zai, Zb2, Za3, Zae, Zan, Zbd, Zbf, Zbg, Zas, Za9, Zcf, Zbq, Zch, Yao, Yam, Yan, Yau, Nat.reduceLT, ne_eq, reduceCtorEq, not_false_eq_true, implies_true, Yav, Ya2, Yas, Yat, Yak, Yal, Zau, Zbu, Zb5, Yax, Yay, Zb7, Bool.or_false, ↓reduceIte, Za6, Zat, Zbb, Zbl, Za5, Za2, Zaf, Zap, Zab, Zag, Zaq, Zah, Zam, Zb6, Zay, Zd0, Zad, Zac, Zde, Zd2, Zbr, Zcy, Zcx, Zfl, List.forall_mem_cons, List.not_mem_nil, false_imp_iff, and_self, Option.some.injEq, Zfm, Zfe, mkT, Yaf, Zar, Zbe, Zbk, Zcr, Zet, Zdh, Za8, Zba, Zb9, Zb1, Zb0, Zc9, Zb8, Zcl, Zbt, Zco, Zb4, Ybc, Ybd, Yb7, Yb8, Ybi, Yba, Zaa, Option.bind_eq_bind, Zaj, Yb3, Bool.or_true, Yb4, Yaw, Yb5, Option.pure_def, Yab, sz25, sz27, sz31, ag25, ag27, ag31, Za1 (hcv _), hres, st58, rdC, l0, e1, h33t, kF_ret1, h30, kU_val, Zqu, back, Zci, taken, Zbi, Zdj, beq_self_eq_true, Nat.reduceBEq, Zdd, Zcn, Zf5, Zoa, Zhk, Msg.cs, h25, slN, lrD, Zxa]
def pat17 (h : List O) : List (Option D) := [none, none, some (.ptr h.length 0), some (.ptr (h.length + 1) 0), some (.ptr (h.length + 2) 0), none, none, none, none, none, none, none, none, none, none, none, none, none, none, none, none, none, none, none, none, none, none, none, none, none, none, none, none, none, none, none, none, none, none, none, none, none, none, none, none, none, none, none, none, none, none, none, none, none, none, none]
theorem Zm8 (s : St) (m : Msg) (ns : List Nat) (l5 : List UInt8) (h ex : List O) (c : Code) (hc : tl17 = some c) (hm : m.list = Zhu ns) (hx5 : l5.length ≤ 100000) (hn : ns.length ≤ 1000)
    (h1 : s.d = [(30, [.ptr h.length 0, .ptr (h.length + 1) 0])]) (h2 : s.r = .no) (h3 : s.h = h ++ .cells (m.cs (slN ns)) :: .cells [.int .i64 0] :: .cells [rdC l5] :: ex) (h4 : mkT (pat17 h) s.t 0 = s.t) :
    kx Try.prog wpr wcv 17 c s (kF Try.prog wpr wcv Try.f17 h) =
      some (.val (if l5 = [] ∧ m.right = true then .tup [.agg (m.cs (lrD ns)), .int .i64 0] else .tup [.agg (msg0.cs (.osl false true 0 [])), .int .i64 12]), h) := by
  obtain ⟨zs, rfl⟩ := Zd8 h1 h2 h3 h4
  exact w17_tail zs m ns l5 h ex c hc hm hx5 hn
noncomputable def Stop {β : Type} (P : Program) (pr : FuncId → List D → Option D) (cv : FuncId → Nat → List Cv) (f : FuncId) (c : Code) (s : St) (k : X × St → Option β) : Option β := kx P pr cv f c s k
theorem Zol {β : Type} {P : Program} {pr : FuncId → List D → Option D} {cv : FuncId → Nat → List Cv} {f : FuncId} {r : Code} {s : St} {k : X × St → Option β} {a : Array Oper} {b : Bool} :
    kSeq P pr cv f (.seq (.region 13 a b) r) k (.nrm, s) = Stop P pr cv f (.seq (.region 13 a b) r) s k := rfl
end Go.Abs
namespace Go.Abs
open Go Go.Proofs
set_option maxRecDepth 10000
set_option maxHeartbeats 4000000
theorem Heads.len {l r : List UInt8} {a b c d : Nat} (h : Heads l r a b c d) : r.length ≤ l.length := by
  obtain ⟨l1, l2, l3, p0, p1, p2, p3⟩ := h.ex
  have := Zf1 p0; have := Zf1 p1; have := Zf1 p2; have := Zf1 p3
  omega
open Classical in
theorem w17_none (a : D) (xs l4 : List UInt8) (n0 n1 n2 n3 : Nat) (ha : Rd a (byE xs)) (hx : xs.length ≤ 100000) (hh : Heads xs l4 n0 n1 n2 n3) (h13 : n0 < 13)
    (hk : n0 ≠ 4 ∧ n0 ≠ 5 ∧ n0 ≠ 6 ∧ n0 ≠ 7 ∧ n0 ≠ 10 ∧ n0 ≠ 11 ∧ n0 ≠ 12) (h : List O) :
    wc 17 [a] h = some (.val (if l4 = [] ∧ (Ze9 n0 n1 n2 n3).right = true then .tup [.agg ((Ze9 n0 n1 n2 n3).cs (lrD [])), .int .i64 0] else .tup [.agg (msg0.cs (.osl false true 0 [])), .int .i64 12]), h) := by
  have h31 := Zmc ha (by omega)
  have b58 := Zr2 (d := .osl true false 1 (byE xs)) rfl rfl
  have h32 := w32 (h.length + 2)
  have hx4 : l4.length ≤ 100000 := by have := hh.len; omega
  have hcv : ∀ i, wcv 17 i = [] := fun _ => rfl
  have hres : Try.f17.results.toList = [ResultVar.cell 2 27, ResultVar.cell 3 25] := rfl
  rw [wc, Zbm rfl Try.func17 rfl]
  simp only [Zbj, Yap, Yaq, Nat.reduceAdd, Nat.reduceSub, Yae, Yaj, Yar, Zai, Zc5, Za3, Zae, Zan, Zbf, Zbg, Za9, Zcf, Zbq, ne_eq, reduceCtorEq, not_false_eq_true, implies_true, Yav, Ya2, Yas, Yat, Yak, Yal, Zbu, Zb5, Yax, Yay, Bool.or_false, ↓reduceIte, Za0, Zd4, Zdq, Zdk, Zel, Za2, Zaf, Zab, Zaq, Zah, Zec, Zdg, Yaf, hlen, Zin, Zb0, Zc9, Zb8, Zcl, Ybi, Yba, Yb3, Yaw, Za1 (hcv _), Try.ntmps17, ha.ownD, zo27, zo25, Zml, h31, b58, zo59, List.zip_cons_cons, List.zip_nil_right, h32, List.any_toArray, Zci, taken, Zbi, Zdj, Nat.reduceBEq, Zdd, Zcn, Zd6, Zf5, Zcg]
  rw [Zl7 rfl rfl rfl]
  simp only [Yap, Yaq, Nat.reduceAdd, Yaj, Yar, hlen, Ybi, Yba, Yaw, Ybv, Zif, Zl1, Zjl, Znm ha, Zmj, Zgx, Zo7, Zo8, Zo9]
  refine Zn7 (P := Try.prog) (pr := wpr) (cv := wcv) (w60 h _ _ _ xs l4 n0 n1 n2 n3 _ _ _ _ hx hh ?_) ?_
  · intro l hs i n hi hl4
    refine (Zit (hgetn.trans rfl) rfl).trans ?_
    simp only [Zai, Za3, Zae, Zan, Za9, ne_eq, reduceCtorEq, not_false_eq_true, implies_true, Ya2, Yas, Yat, Yak, Yal, Zau, Za0, Za2, List.foldl_nil, Za1 (hcv _), List.zip_cons_cons, List.zip_nil_right, List.foldl_cons]
    rw [Zjr (hgetn.trans rfl)]
    have hi1 : i + 1 ≤ hs.length := by omega
    simp only [Yap, Yaq, Zc5, Zcd, Zae, Zan, Za9, Zcf, Yau, ne_eq, reduceCtorEq, not_false_eq_true, implies_true, Ya2, Yas, Yat, Yak, Yal, Zau, Zb5, ↓reduceIte, Za4, Zbb, Zbo, Za2, Zaf, Zab, and_self, Zbe, Zbk, Zcr, Zdh, Za8, Zb1, Zc9, Zcl, Zco, Yaw, sz3, Za1 (hcv _), ix59 hi, hi1, Zqo (show i < hs.length by omega)]
    rw [Zk8 (hgetn.trans rfl)]
    simp only [Yas, Yat, Zdh]
  · rw [Zkl (n := h.length + 5) (by simp) (hgetn.trans rfl) (by simp)]
    simp only [Zai, Za3, Zcd, Zan, ne_eq, reduceCtorEq, not_false_eq_true, implies_true, Yas, Yat, Zbo, Zag, Zam, Zdh, Ybi, Yba, Za1 (hcv _)]
    rw [Zn9 (n := h.length + 5) (h := h) (l := [_, _, _, _, _]) rfl (.tup [] (by simp)) ?_]
    rotate_left
    · exact ⟨.inl rfl, .inl rfl, .inr (.cells _ (by simp [Zp0])), .inr (.cells _ (by simp [Zbr])), .inl rfl, trivial⟩
    simp only [Yap, Yaq, Nat.reduceAdd, Zan, Zbf, Zbg, Za9, Yan, Yau, Nat.reduceLeDiff, ne_eq, reduceCtorEq, not_false_eq_true, implies_true, Yav, Ya2, Yas, Yat, Yak, Yal, Zau, Zb5, Zb7, ↓reduceIte, Za6, Za2, Zaf, Zab, Zag, Zaq, Zah, Zam, Zc6, Zbs, Zbe, Zbk, Zcr, Za8, Zbt, Ybc, Ybd, Ybi, Yba, Zaj, Yaw, sz3, ag3, Zj1, Zmb, Zkd, Zqb ha, Zqw, Zqx, Zob, Zqd]
    have h33 := w33 true
    have e13 : decide ((n0 : Int) < 13) = true := by simp; omega
    have wk : IntKind.u8.wrap (n0 : Int) = (n0 : Int) := by rw [IntKind.wrap_u8]; omega
    have h34 := w34 h.length (h ++ [.cells ((Ze9 n0 n1 n2 n3).cs (.osl false true 0 [])), .cells [.e (.int .i64 0)], .cells [rdC l4], .cells [.int .i64 (n0 : Int), .int .i64 (n1 : Int), .int .i64 (n2 : Int), .int .i64 (n3 : Int)], .cells [.ptr (h.length + 2) 0]])
    have b27 := @Zpe n0 n1 n2 n3
    simp only [Msg.cs, Ze9, Ybv, Yaj, Yar, hlen, Yap, Yaq, Nat.add_assoc, Nat.reduceAdd] at h34
    simp only [Yap, Yaq, Nat.reduceAdd, Yar, Zai, Za3, Zae, Zan, Za9, Zcf, Zbq, Yam, Yan, Yau, Nat.reduceLeDiff, ne_eq, reduceCtorEq, not_false_eq_true, implies_true, Yav, Ya2, Yas, Yat, Yak, Yal, Zau, Zbu, Zb5, Yax, Yay, Zb7, Zd5, ↓reduceIte, Zcs, Zdk, Zbb, Zbo, Za2, Zaf, Zab, Zag, Zaq, Zah, Zam, and_self, Yaf, Zar, Zbe, Zbk, Zcr, Zet, Za8, Zb1, Zb0, Zb8, Zbt, Zco, Ybd, Yb7, Yb8, Ybi, Yba, Zaj, Yb3, Yaw, Yab, sz3, sz27, ag3, Za1 (hcv _), e13, h33, Zqd, ix59_1, ix59_2, ix59_3, Zez Try.underlying3 Try.underlying5, wk, b27, List.zip_cons_cons, List.zip_nil_right]
    refine (Zed (l := Zfn) (by exact Zlz)).trans ?_
    obtain ⟨k4, k5, k6, k7, k10, k11, k12⟩ := hk
    have f4 : ((n0 : Int) == 4) = false := by simp; omega
    have f5 : ((n0 : Int) == 5) = false := by simp; omega
    have f6 : ((n0 : Int) == 6) = false := by simp; omega
    have f7 : ((n0 : Int) == 7) = false := by simp; omega
    have f10 : ((n0 : Int) == 10) = false := by simp; omega
    have f11 : ((n0 : Int) == 11) = false := by simp; omega
    have f12 : ((n0 : Int) == 12) = false := by simp; omega
    simp only [Yap, Yaq, Nat.reduceAdd, Zai, Za3, Zan, Za9, St.put, Yao, Yam, Yan, Yau, Nat.reduceLeDiff, ne_eq, reduceCtorEq, not_false_eq_true, implies_true, Bool.not_false, Bool.true_eq_false, Yav, Ya2, Yas, Yat, Yak, Yal, Zau, Ze5, Zb5, Zfi, Yax, Yay, ↓reduceIte, Za4, Za0, Za6, Za5, Za2, Zab, Zag, Zaq, Zah, Zdi, false_imp_iff, and_self, List.toList_toArray, Zdy, kd_l, Zc3, Zc2, kd_r, Zc4, Zbc, Zaz, Zcv, Zcb, Zcu, Zby, Zbx, Zbp, Ze1, Op.operands, Zg6, Zfm, Zdn, List.foldl_nil, Zar, Zbk, hgetn, Za8, Zba, Zb9, Zaa, Yb3, Yb4, Yaw, Yb5, sz5, ag5, st27, Za1 (hcv _), hcv, kd_h, Zbz, Zcj, Zck, Zes, Zdp, Zdf, Zc1, Zce, Zcc, Zf8, Zej, Zf9, List.all_cons, List.all_nil, Bool.and_self, Zfn, h34, Zei, mp65, key5, Zey, Zek, Zh9, Zw0, f4, f5, f6, f7, f10, f11, f12, zo64, show Nat.testBit 7 0 = true by decide, show Nat.testBit 15 2 = true by decide, show Nat.testBit 15 3 = true by decide]
    simp only [Zbw, Za7, Zao, Za3, Zae, Za9, Ya2, Yas, Yat, Yak, Yal, Zw7 Try.underlying64, Zcm, ↓Zol]
    exact Zm8 _ (Ze9 n0 n1 n2 n3) [] l4 h _ _ rfl rfl hx4 (by simp) rfl rfl rfl rfl
end Go.Abs
namespace Go.Abs
open Go Go.Proofs
theorem Ztm (n : Nat) : (UInt8.ofNat n).toNat = n % 256 := by simp
theorem Zmm : digs 0 = [] := by rw [digs]; simp
theorem Zko {n : Nat} (h : 0 < n) : digs n = UInt8.ofNat n :: digs (n / 256) := by rw [digs]; simp [h]
theorem valB_digs : ∀ n : Nat, valB (digs n).reverse = n := by
  intro n
  induction n using Nat.strongRecOn with
  | _ n ih =>
    by_cases h : 0 < n
    · rw [Zko h, List.reverse_cons, Zry, ih (n / 256) (by omega), Ztm]; omega
    · have : n = 0 := by omega
      subst this; rw [Zmm]; rfl
theorem Zr0 {n : Nat} (h : 0 < n) : digs n ≠ [] := by rw [Zko h]; simp
theorem digs_last : ∀ n : Nat, ∀ h : 0 < n, 0 < ((digs n).getLast (Zr0 h)).toNat := by
  intro n
  induction n using Nat.strongRecOn with
  | _ n ih =>
    intro h
    by_cases h2 : 0 < n / 256
    · have e : (digs n).getLast (Zr0 h) = (digs (n / 256)).getLast (Zr0 h2) := by
        simp only [Zko h]; rw [List.getLast_cons (Zr0 h2)]
      rw [e]; exact ih _ (by omega) h2
    · have e : digs n = [UInt8.ofNat n] := by rw [Zko h, show n / 256 = 0 by omega, Zmm]
      simp only [e, List.getLast_singleton, Ztm]; omega
theorem Zy8 (n : Nat) : putL n = UInt8.ofNat (digs n).length :: (digs n).reverse := by simp [putL]
theorem Ztp (n : Nat) (r : List UInt8) (hn : n ≤ 1099511627776) : Zmf (putL n ++ r) = .ok n r := by
  have h6 := Zw4 n hn
  have hm : (UInt8.ofNat (digs n).length).toNat = (digs n).length := by rw [Ztm]; omega
  rw [Zy8, Yaj, Zmf]
  simp only [hm]
  rw [if_neg (by omega), if_neg (by simp)]
  by_cases h : 0 < n
  · have hl : 0 < (digs n).length := by rw [Zko h]; simp
    have hv : valB (((digs n).reverse ++ r).take (digs n).length) = n := by
      rw [List.take_append_of_le_length (by simp), List.take_of_length_le (by simp), valB_digs]
    have hd : 0 < (((digs n).reverse ++ r).getD 0 0).toNat := by
      have e := digs_last n h
      have e2 : (digs n).reverse = (digs n).getLast (Zr0 h) :: ((digs n).dropLast).reverse := by
        conv => lhs; rw [← List.dropLast_concat_getLast (Zr0 h)]
        simp
      rw [e2]; simpa using e
    rw [if_neg (by omega), hv, if_pos ⟨hd, hn⟩, List.drop_append_of_le_length (by simp), List.drop_of_length_le (by simp)]; simp
  · have : n = 0 := by omega
    subst this
    simp [Zmm]
theorem parN_putL (n : Nat) (r : List UInt8) (hn : n ≤ 1099511627776) : parN (putL n ++ r) = some (n, r) := by simp [parN, Ztp n r hn]
theorem Zig (x : Int) (r : List UInt8) (h0 : 0 ≤ x) (hn : x ≤ 1099511627776) : parN (Zds [x] ++ r) = some (x.toNat, r) := by
  have := parN_putL x.toNat r (by omega)
  simpa [Zds] using this
theorem Zvc (b : Bool) (r : List UInt8) : parB (Zds [bitZ b] ++ r) = some (b, r) := by
  have := Zig (bitZ b) r (by cases b <;> decide) (by cases b <;> decide)
  rw [parB, this]
  cases b <;> simp [bitZ]
theorem Zs3 (s : ByteArray) (r : List UInt8) (hs : s.size < 256) : Znh (Zky s ++ r) = some (sL s, r) := by
  have hm : (UInt8.ofNat s.size).toNat = (sL s).length := by rw [Ztm, sL_len]; omega
  rw [Zky, Yaj, Znh]
  simp only [hm]
  rw [if_neg (by simp), List.take_append_of_le_length (by simp), List.take_of_length_le (by simp), List.drop_append_of_le_length (by simp), List.drop_of_length_le (by simp)]
  simp
def Zjj (xs : List Int) : List Nat := xs.map Int.toNat
theorem Zxw (xs : List Int) (r : List UInt8) (hx : ∀ x ∈ xs, 0 ≤ x ∧ x ≤ 1099511627776) : Zhq xs.length (Zds xs ++ r) = .ok (Zjj xs, r) := by
  induction xs with
  | nil => simp [Zhq, Zds, Zjj]
  | cons x xs ih =>
    have h1 := hx x (by simp)
    have ih := ih fun y hy => hx y (by simp [hy])
    have e : Zds (x :: xs) ++ r = putL x.toNat ++ (Zds xs ++ r) := by simp [Zds]
    rw [Yap, Zhq, e, Ztp _ _ (by omega)]
    simp only [ih, Zjj, Ybi]
theorem Zxx (xs : List Int) (r : List UInt8) (hl : xs.length < 256) (hx : ∀ x ∈ xs, 0 ≤ x ∧ x ≤ 1099511627776) : Zrc (Znv xs ++ r) = .ok (Zjj xs, r) := by
  have hm : (UInt8.ofNat xs.length).toNat = xs.length := by rw [Ztm]; omega
  rw [Znv, Yaj, Zrc, hm, Zxw xs r hx]
theorem parL_listB (xs : List Int) (r : List UInt8) (hl : xs.length < 256) (hx : ∀ x ∈ xs, 0 ≤ x ∧ x ≤ 1099511627776) : parL (Znv xs ++ r) = some (Zjj xs, r) := by
  rw [parL, Zxx xs r hl hx]
theorem Zst (xs : List Int) (hx : ∀ x ∈ xs, 0 ≤ x ∧ x ≤ 1099511627776) : Zhu (Zjj xs) = xs := by
  induction xs with
  | nil => rfl
  | cons x xs ih =>
    have h1 := hx x (by simp)
    have ih := ih fun y hy => hx y (by simp [hy])
    simp only [Zjj, Zhu, Ybi, List.map_map] at ih ⊢
    rw [ih]
    congr 1; omega
theorem Zwv (k : ByteArray) (v n : Int) (g : Bool) (r : List UInt8) (hk : k.size < 256) (hv : 0 ≤ v ∧ v ≤ 1099511627776) (hn : 0 ≤ n ∧ n ≤ 1099511627776) : parP (Zn0 k v n g ++ r) = some (⟨sL k, v.toNat, n.toNat, g⟩, r) := by
  have e : Zn0 k v n g ++ r = Zky k ++ (Zds [v] ++ (Zds [n] ++ (Zds [bitZ g] ++ r))) := by simp [Zn0, Zds]
  rw [e, parP, Zs3 _ _ hk]
  simp only [Zig v _ hv.1 hv.2, Zig n _ hn.1 hn.2, Zvc]
theorem BA_sL (s : ByteArray) : BA (sL s) = s := by cases s; simp [BA, sL]
def Zjv (m : Msg) (l : List UInt8) : Option (Msg × List UInt8) :=
  if m.kind = 4 then (match parN l with
    | some (k, r) => (match parB r with
      | some (b, r) => some ({ m with key := (k : Int), slow := b }, r)
      | none => none)
    | none => none) else
  if m.kind = 5 then (match parP l with
    | some (x, r) => some ({ m with ikey := BA x.key, ival := (x.val : Int), iver := (x.ver : Int), gone := x.gone }, r)
    | none => none) else
  if m.kind = 6 then (match Znh l with
    | some (s, r) => some ({ m with ikey := BA s }, r)
    | none => none) else
  if m.kind = 7 then (match parN l with
    | some (k, r) => (match parL r with
      | some (ns, r) => some ({ m with pred := IntKind.i64.wrap ((k : Int) - 1), list := Zhu ns }, r)
      | none => none)
    | none => none) else
  if m.kind = 10 then (match parN l with
    | some (k, r) => (match parB r with
      | some (b, r) => some ({ m with place := (k : Int), done := b }, r)
      | none => none)
    | none => none) else
  if m.kind = 11 then (match parN l with
    | some (k, r) => some ({ m with code := (k : Int) }, r)
    | none => none) else
  if m.kind = 12 then (match parN l with
    | some (k, r) => if k = 0 then (match parP r with
      | some (x, r) => some ({ m with code := 0, ikey := BA x.key, ival := (x.val : Int), iver := (x.ver : Int), gone := x.gone }, r)
      | none => none) else some ({ m with code := (k : Int) }, r)
    | none => none) else some (m, l)
theorem Zx6 {l : List Int} {frm : Int} (h : Znj l frm = true) : l.length ≤ 3 ∧ ∀ x ∈ l, 0 ≤ x ∧ x ≤ 1099511627776 := by
  simp only [Znj, Bool.and_eq_true, decide_eq_true_eq] at h
  refine ⟨by omega, fun x hx => ?_⟩
  obtain ⟨j, hj, rfl⟩ := List.getElem_of_mem hx
  have := isPlace_iff.1 (h.1 j _ hj (List.getElem?_eq_getElem hj)).1
  omega
theorem Zt2 (m : Msg) (hf : m.Fits) (r : List UInt8) : Zjv m.head (Zjt m ++ r) = some (m, r) := by
  have hk1 := hf.k1
  have hk2 := hf.k2
  have hff := hf.fine
  have ho := hf.off
  unfold Zjv Zjt
  simp only [show m.head.kind = m.kind from rfl, beq_iff_eq]
  by_cases h4 : m.kind = 4
  · simp [Msg.fine, h4] at hff
    have hp := isPlace_iff.1 hff
    simp only [h4, if_true, Ybv, Zig m.key _ hp.1 (by omega), Zvc]
    simp [Msg.off, h4, Msg.head] at ho
    cases m; simp [Msg.head] at ho h4 hp ⊢; simp_all; omega
  by_cases h5 : m.kind = 5
  · simp [Msg.fine, h5] at hff
    have hp := finePair_iff.1 hff
    simp [h5, Zwv m.ikey m.ival m.iver m.gone r (by omega) (by omega) (by omega), BA_sL]
    simp [Msg.off, h5, Msg.head, Msg.noItem] at ho
    cases m; simp [Msg.head] at ho h5 hp ⊢; simp_all; omega
  by_cases h6 : m.kind = 6
  · simp [Msg.fine, h6] at hff
    have hp := fineKey_iff.1 hff
    simp [h6, Zs3 m.ikey r (by omega), BA_sL]
    simp [Msg.off, h6, Msg.head] at ho
    cases m; simp [Msg.head] at ho h6 hp ⊢; simp_all
  by_cases h7 : m.kind = 7
  · simp [Msg.fine, h7] at hff
    obtain ⟨hl, hx⟩ := Zx6 hff.2
    have hpp : -1 ≤ m.pred ∧ m.pred < 65536 := by
      rcases hff.1 with h | h
      · omega
      · have := isPlace_iff.1 h; omega
    have hw : IntKind.i64.wrap (m.pred + 1) = m.pred + 1 := Zft (by omega) (by omega)
    simp only [h7, Int.reduceEq, if_true, if_false, Ybv, hw, Zig (m.pred + 1) _ (by omega) (by omega), parL_listB m.list r (by omega) hx, Zst m.list hx]
    have e : IntKind.i64.wrap (((m.pred + 1).toNat : Int) - 1) = m.pred := by rw [Zft (by omega) (by omega)]; omega
    rw [e]
    simp [Msg.off, h7, Msg.head] at ho
    cases m; simp [Msg.head] at ho h7 ⊢; simp_all
  by_cases h10 : m.kind = 10
  · simp [Msg.fine, h10] at hff
    have hp := isPlace_iff.1 hff
    simp only [h10, Int.reduceEq, if_true, if_false, Ybv, Zig m.place _ hp.1 (by omega), Zvc]
    simp [Msg.off, h10, Msg.head] at ho
    cases m; simp [Msg.head] at ho h10 hp ⊢; simp_all; omega
  by_cases h11 : m.kind = 11
  · simp [Msg.fine, h11] at hff
    have hp : 0 ≤ m.code ∧ m.code ≤ 1099511627776 := by omega
    simp only [h11, Int.reduceEq, if_true, if_false, Zig m.code _ hp.1 hp.2]
    simp [Msg.off, h11, Msg.head] at ho
    cases m; simp [Msg.head] at ho h11 hp ⊢; simp_all; omega
  by_cases h12 : m.kind = 12
  · simp [Msg.fine, h12] at hff
    simp [Msg.off, h12, Msg.head, Msg.noItem] at ho
    rcases hff with ⟨hc, hpp⟩ | ⟨hc, hr⟩
    · have hp := finePair_iff.1 hpp
      have e := Zig (0 : Int) (Zn0 m.ikey m.ival m.iver m.gone ++ r) (by decide) (by decide)
      simp only [h12, hc, Int.reduceEq, if_true, if_false, Ybv, e, Zwv m.ikey m.ival m.iver m.gone r (by omega) (by omega) (by omega), BA_sL, show (0 : Int).toNat = 0 from rfl]
      cases m; simp [Msg.head] at ho h12 hp hc ⊢; simp_all; omega
    · have e := Zig (201 : Int) r (by decide) (by decide)
      simp only [h12, hc, Int.reduceEq, if_true, if_false, Yaf, e, show (201 : Int).toNat = 201 from rfl, show ¬ (201 : Nat) = 0 by decide]
      have hr1 : m.ikey = { data := #[] } := by simpa [bab] using hr.1
      cases m; simp [Msg.head] at ho h12 hc hr hr1 ⊢; simp_all
  · simp only [h4, h5, h6, h7, h10, h11, h12, if_false, Yar]
    have e1 : (m.kind == 4) = false := by simpa using h4
    have e2 : (m.kind == 5) = false := by simpa using h5
    have e3 : (m.kind == 6) = false := by simpa using h6
    have e4 : (m.kind == 7) = false := by simpa using h7
    have e5 : (m.kind == 10) = false := by simpa using h10
    have e6 : (m.kind == 11) = false := by simpa using h11
    have e7 : (m.kind == 12) = false := by simpa using h12
    simp only [Msg.off, e1, e2, e3, e4, e5, e6, e7, Yav, if_false] at ho
    rw [← ho]
theorem Zqf (m : Msg) (hf : m.Fits) (r : List UInt8) : Heads (payL m ++ r) (Zjt m ++ r) m.kind.toNat m.call.toNat m.frm.toNat m.to.toNat := by
  obtain ⟨h0, h1, h2, h3⟩ := Zvw hf
  simp only [okN, Bool.and_eq_true, decide_eq_true_eq] at h0 h1 h2 h3
  have e : payL m ++ r = Zds [m.kind] ++ (Zds [m.call] ++ (Zds [m.frm] ++ (Zds [m.to] ++ (Zjt m ++ r)))) := by simp [payL, Zjd, Zds]
  refine ⟨_, _, _, ?_, Zig m.call _ h1.1 h1.2, Zig m.frm _ h2.1 h2.2, Zig m.to _ h3.1 h3.2⟩
  rw [e]; exact Zig m.kind _ h0.1 h0.2
theorem Heads.det {l r r' : List UInt8} {a b c d a' b' c' d' : Nat} (h : Heads l r a b c d) (h' : Heads l r' a' b' c' d') : r = r' ∧ a = a' ∧ b = b' ∧ c = c' ∧ d = d' := by
  obtain ⟨l1, l2, l3, p0, p1, p2, p3⟩ := h.ex
  obtain ⟨k1, k2, k3, q0, q1, q2, q3⟩ := h'.ex
  rw [p0] at q0; simp at q0; obtain ⟨rfl, rfl⟩ := q0
  rw [p1] at q1; simp at q1; obtain ⟨rfl, rfl⟩ := q1
  rw [p2] at q2; simp at q2; obtain ⟨rfl, rfl⟩ := q2
  rw [p3] at q3; simp at q3; obtain ⟨rfl, rfl⟩ := q3
  exact ⟨rfl, rfl, rfl, rfl, rfl⟩
theorem Zvx {m : Msg} (hf : m.Fits) : (m.kind.toNat : Int) = m.kind ∧ (m.call.toNat : Int) = m.call ∧ (m.frm.toNat : Int) = m.frm ∧ (m.to.toNat : Int) = m.to := by
  obtain ⟨h0, h1, h2, h3⟩ := Zvw hf
  simp only [okN, Bool.and_eq_true, decide_eq_true_eq] at h0 h1 h2 h3
  omega
theorem pay_inj {m o : Msg} (hm : m.Fits) (ho : o.Fits) (h : payL m = payL o) : m = o := by
  have a := Zqf m hm []
  have b := Zqf o ho []
  rw [h] at a
  obtain ⟨e0, e1, e2, e3, e4⟩ := a.det b
  have x := Zvx hm
  have y := Zvx ho
  have hh : m.head = o.head := by
    simp only [Msg.head, Msg.mk.injEq]
    refine ⟨by omega, by omega, by omega, by omega, ?_⟩; simp
  have f1 := Zt2 m hm []
  have f2 := Zt2 o ho []
  rw [e0, hh, f2] at f1
  simpa using f1.symm
end Go.Abs
namespace Go.Abs
open Go Go.Proofs
theorem Zis (xs : List UInt8) : (Zg7 xs).length = xs.length + 8 := by simp [Zg7, hdr4, Zlh]
theorem Zmn (xs : List UInt8) : ((Zg7 xs).drop 4).take xs.length = xs := by simp [Zg7, hdr4]
theorem closeL_inj {xs ys : List UInt8} (h : Zg7 xs = Zg7 ys) : xs = ys := by
  have hl : xs.length = ys.length := by have := congrArg List.length h; simp only [Zis] at this; omega
  have h1 := Zmn xs
  rw [h, hl, Zmn] at h1
  exact h1.symm
theorem apart {m o : Msg} (hm : m.Fits) (ho : o.Fits) : Zg7 (payL m) = Zg7 (payL o) ↔ m = o :=
  ⟨fun h => pay_inj hm ho (closeL_inj h), fun h => by rw [h]⟩
end Go.Abs
