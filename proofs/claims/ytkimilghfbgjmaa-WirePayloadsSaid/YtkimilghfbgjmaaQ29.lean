/-
  WIRE: Take, whatever it is given; WireOnly. A GIVEN FUNCTION that hands back a fresh slice: what is said of its call by the kit, turned into what the evaluator needs. WIRE: the given functions, bytes.Clone and slices.Grow of no slice. WIRE: what came in reads as sealed data; a call that answers true, over whatever came in, keeps all that was there. WIRE: a message that came in. WIRE: behind a call that keeps all that was there. WIRE: bytes that came in. No condition.
-/
import Derived.Test.YtkimilghfbgjmaaQ27
import Derived.Test.YtkimilghfbgjmaaQ28
import Derived.Test.YtkimilghfbgjmaaQ13
import Derived.Test.YtkimilghfbgjmaaQ14
import Derived.Shelf.Bytes.SlClone
import Derived.Shelf.Spec.SlicesGrow
import Derived.Test.YtkimilghfbgjmaaQ20
import Derived.ProofKit
import Derived.Test.YtkimilghfbgjmaaRows

open List renaming append_nil → Yaf
open Nat renaming le_refl → Yab
namespace Go.Abs
open Go Go.Proofs
set_option maxRecDepth 10000
set_option maxHeartbeats 8000000
theorem Zwr {xs : List UInt8} {m : Msg} (h : Ztf xs = some m) : payL m = xs ∧ m.right = true ∧ -9223372036854775808 ≤ m.call ∧ m.call ≤ 9223372036854775807 := by
  unfold Ztf readL at h
  cases hp : parH xs with
  | none => simp [hp] at h
  | some q =>
    obtain ⟨⟨n0, n1, n2, n3⟩, l4⟩ := q
    have hh := Zty hp
    rw [hp] at h
    simp only at h
    by_cases h13 : n0 < 13
    · rw [if_pos h13] at h
      cases hf : Zjv (Ze9 n0 n1 n2 n3) l4 with
      | none => rw [hf] at h; simp at h
      | some q =>
        obtain ⟨m', l5⟩ := q
        rw [hf] at h
        simp only at h
        by_cases hc : l5 = [] ∧ m'.right = true
        · rw [if_pos hc] at h
          cases h
          obtain ⟨rfl, hr⟩ := hc
          obtain ⟨e1, e2, e3⟩ := read_pay hh hf
          exact ⟨e1, hr, by omega, by omega⟩
        · rw [if_neg hc] at h; cases h
    · rw [if_neg h13] at h; simp at h
theorem frame_close {xs : List UInt8} {k : Nat} (hl : xs.length = k + 8) (h : Zh6 xs k = true) : Zg7 ((xs.take (4 + k)).drop 4) = xs := by
  simp only [Zh6, Bool.and_eq_true, decide_eq_true_eq] at h
  have hpl : ((xs.take (4 + k)).drop 4).length = k := by simp; omega
  have e1 : hdr4 k ++ (xs.take (4 + k)).drop 4 = xs.take (4 + k) := by
    rw [← h.2.1]
    have : xs.take 4 = (xs.take (4 + k)).take 4 := by rw [List.take_take]; congr 1; omega
    rw [this, List.take_append_drop]
  rw [Zg7, hpl, e1, ← h.2.2, List.take_append_drop]
noncomputable def Zup (xs : List UInt8) : Except Int Msg :=
  if xs.length < 8 then .error 11 else if Zh6 xs (xs.length - 8) = true then (match Ztf ((xs.take (4 + (xs.length - 8))).drop 4) with | some m => .ok m | none => .error 12) else .error 12
def takeV : Except Int Msg → D
  | .ok m => .tup [.agg (m.cs (lrD (Zjj m.list))), .int .i64 0]
  | .error e => .tup [.agg (msg0.cs (.osl false true 0 [])), .int .i64 e]
theorem w11 (a : D) (xs : List UInt8) (ha : Rd a (byE xs)) (hx : xs.length ≤ 100000) (h : List O) : wc 11 [a] h = some (.val (takeV (Zup xs)), h) := by
  unfold Zup
  by_cases h8 : xs.length < 8
  · rw [if_pos h8]
    exact w11_bad a xs 11 ha (by decide) (fun h => Zwe a xs ha h8 h) h
  · rw [if_neg h8]
    have hk : xs.length = (xs.length - 8) + 8 := by omega
    by_cases hok : Zh6 xs (xs.length - 8) = true
    · rw [if_pos hok]
      have h24 := fun h => w24 a xs ha (xs.length - 8) hk hx h
      rw [if_pos hok] at h24
      have h17 := fun b hb h => w17 b ((xs.take (4 + (xs.length - 8))).drop 4) hb (by simp; omega) h
      cases hr : Ztf ((xs.take (4 + (xs.length - 8))).drop 4) with
      | some m =>
        rw [hr] at h17
        exact w11_ok a xs _ m (Zjj m.list) 0 ha h24 h17 h
      | none =>
        rw [hr] at h17
        exact w11_ok a xs _ msg0 [] 12 ha h24 h17 h
    · rw [if_neg hok]
      exact take_no xs (xs.length - 8) hk hx (by simpa using hok) a ha h
theorem takeD_inv {xs : List UInt8} {m : Msg} (h : Zup xs = .ok m) : Zg7 (payL m) = xs ∧ m.right = true ∧ -9223372036854775808 ≤ m.call ∧ m.call ≤ 9223372036854775807 := by
  unfold Zup at h
  by_cases h8 : xs.length < 8
  · rw [if_pos h8] at h; cases h
  · rw [if_neg h8] at h
    by_cases hok : Zh6 xs (xs.length - 8) = true
    · rw [if_pos hok] at h
      cases hr : Ztf ((xs.take (4 + (xs.length - 8))).drop 4) with
      | none => rw [hr] at h; cases h
      | some m' =>
        rw [hr] at h
        cases h
        obtain ⟨e1, e2, e3, e4⟩ := Zwr hr
        exact ⟨by rw [e1]; exact frame_close (by omega) hok, e2, e3, e4⟩
    · rw [if_neg hok] at h; cases h
theorem takeD_bad {xs : List UInt8} {e : Int} (h : Zup xs = .error e) : (e = 11 ∧ xs.length < 8) ∨ (e = 12 ∧ ¬ xs.length < 8) := by
  unfold Zup at h
  by_cases h8 : xs.length < 8
  · rw [if_pos h8] at h; cases h; exact .inl ⟨rfl, h8⟩
  · rw [if_neg h8] at h
    right
    refine ⟨?_, h8⟩
    split at h
    · split at h
      · cases h
      · cases h; rfl
    · cases h; rfl
theorem w4 (a : D) (xs : List UInt8) (ha : Rd a (byE xs)) (h : List O) : wc 4 [a] h = some (.val (.bool true), h) := by
  have la := Zor ha
  have h8 := w8
  by_cases hg : (300 : Int) < (xs.length : Int)
  · have e1 : decide ((300 : Int) < (xs.length : Int)) = true := by simpa using hg
    have hcv : ∀ i, wcv 4 i = [] := fun _ => rfl
    have hres : Try.f4.results.toList = [ResultVar.tmp 2] := rfl
    rw [wc, Zbm rfl Try.func4 rfl]
    simp only [Zbj, List.length_cons, List.length_nil, Nat.reduceSub, List.replicate, List.cons_append, List.nil_append, Zai, Zb2, Za7, Zak, Za3, Zc0, Zae, Zan, Zbd, Zbf, Zbg, Za9, Zbq, List.getElem?_toArray, List.getElem?_cons_zero, Option.bind_some, ne_eq, reduceCtorEq, not_false_eq_true, implies_true, Option.map_some, List.set_cons_succ, List.set_cons_zero, List.getD_cons_succ, List.getD_cons_zero, Zau, Za4, Za0, Za6, Za2, Zap, Zab, Zag, Zaq, Zam, Zax, Zeo, Zdr, Zd0, Zb3, Zad, Zac, Zal, Zav, Zcq, Zbr, Option.bind_eq_bind, Nat.zero_add, Option.pure_def, Za1 (hcv _), Try.ntmps4, hres, ha.ownD, la, e1, h8]
  have e1 : decide ((300 : Int) < (xs.length : Int)) = false := by simpa using hg
  have h11 := w11 a xs ha (by omega)
  cases ht : Zup xs with
  | error e =>
    rw [ht] at h11
    simp only [takeV, Msg.cs, msg0] at h11
    have h13 := w13 msg0 msg0 (.osl false true 0 []) (.osl false true 0 []) Rd.osl Rd.osl (by decide)
    have e13 : (decide (msg0.list = msg0.list) && Zlk msg0 msg0) = true := by rw [Zms]
    rw [e13] at h13
    have b27 := Zlt
    simp only [Msg.cs, msg0] at h13 b27
    rcases takeD_bad ht with ⟨rfl, hl⟩ | ⟨rfl, hl⟩
    · have q1 : ((11 : Int) != 0) = true := by decide
      have q2 : ((11 : Int) == 11) = true := by decide
      have q3 : decide ((xs.length : Int) < 8) = true := by simp; omega
      have hcv : ∀ i, wcv 4 i = [] := fun _ => rfl
      have hres : Try.f4.results.toList = [ResultVar.tmp 2] := rfl
      rw [wc, Zbm rfl Try.func4 rfl]
      simp only [Zbj, List.length_cons, List.length_nil, Nat.reduceAdd, Nat.reduceSub, List.replicate, List.cons_append, List.nil_append, Zai, Zbw, Zb2, Za7, Zak, Zao, Za3, Zc0, Zae, Zan, Zbd, Zbf, Zbg, Zas, Za9, Zcf, Zbq, Zch, Ze8, St.put, List.getElem?_toArray, List.getElem?_cons_succ, List.getElem?_cons_zero, Option.bind_some, Nat.reduceLT, ne_eq, reduceCtorEq, not_false_eq_true, implies_true, Bool.not_false, Bool.false_eq_true, Option.map_some, List.set_cons_succ, List.set_cons_zero, List.getD_cons_succ, List.getD_cons_zero, Zau, Zbu, List.any_cons, List.any_nil, Zb7, Zd5, Bool.or_false, ↓reduceIte, Za0, Za6, Zat, Zd4, Zdk, Zbb, Zc8, Za2, Zaf, Zap, Zbh, Zab, Zag, Zaq, Zah, Zam, Zax, Zb6, Zem, Zc6, Zeo, Zg3, Zay, Zdm, Zbs, Zdr, Zd0, Zb3, Zad, Zac, Zal, Zav, Zbr, and_self, Option.some.injEq, Yaf, Zar, Zbk, Zet, Za8, Zb1, Zb0, Zb8, Zbt, Zco, Zb4, List.take_succ_cons, List.take_zero, List.drop_succ_cons, List.drop_zero, List.map_nil, Option.bind_eq_bind, Zaj, Bool.or_self, Nat.zero_add, Option.pure_def, Yab, Try.underlying4, sz27, ag27, Za1 (hcv _), Try.ntmps4, hres, ha.ownD, la, e1, h8, h11, q1, q2, q3, h13, b27, zo27, List.zip_nil_right, List.any_toArray, Zd7, Zg4, Zii, back, Zci, taken, Zbi, Zdj, beq_self_eq_true, Nat.reduceBEq]
    · have q1 : ((12 : Int) != 0) = true := by decide
      have q2 : ((12 : Int) == 11) = false := by decide
      have q4 : ((12 : Int) == 12) = true := by decide
      have q3 : decide ((xs.length : Int) < 8) = false := by simp; omega
      have hcv : ∀ i, wcv 4 i = [] := fun _ => rfl
      have hres : Try.f4.results.toList = [ResultVar.tmp 2] := rfl
      rw [wc, Zbm rfl Try.func4 rfl]
      simp only [Zbj, List.length_cons, List.length_nil, Nat.reduceAdd, Nat.reduceSub, List.replicate, List.cons_append, List.nil_append, Zai, Zbw, Zb2, Za7, Zak, Zao, Za3, Zc0, Zae, Zan, Zbd, Zbf, Zbg, Zas, Za9, Zcf, Zbq, Zch, List.getElem?_toArray, List.getElem?_cons_succ, List.getElem?_cons_zero, Option.bind_some, Nat.reduceLT, ne_eq, reduceCtorEq, not_false_eq_true, implies_true, Bool.false_eq_true, Option.map_some, List.set_cons_succ, List.set_cons_zero, List.getD_cons_succ, List.getD_cons_zero, Zau, Zbu, List.any_cons, List.any_nil, Zb7, Zd5, Bool.or_false, ↓reduceIte, Za0, Za6, Zat, Zd4, Zdk, Zbb, Zc8, Za2, Zaf, Zap, Zab, Zag, Zaq, Zah, Zam, Zax, Zb6, Zem, Zc6, Zeo, Zg3, Zay, Zdm, Zbs, Zdr, Zd0, Zb3, Zad, Zac, Zal, Zav, Zbr, and_self, Option.some.injEq, Yaf, Zar, Zbk, Zet, Za8, Zb1, Zb0, Zb8, Zbt, Zco, Zb4, List.take_succ_cons, List.take_zero, List.drop_succ_cons, List.drop_zero, List.map_nil, Option.bind_eq_bind, Zaj, Bool.or_self, Nat.zero_add, Option.pure_def, Yab, Try.underlying4, sz27, ag27, Za1 (hcv _), Try.ntmps4, hres, ha.ownD, la, e1, h8, h11, q1, q2, q3, q4, h13, b27, zo27, List.zip_nil_right, List.any_toArray, Zd7, Zg4, Zii, back, Zci, taken, Zbi, Zdj, beq_self_eq_true, Nat.reduceBEq]
  | ok m =>
    rw [ht] at h11
    obtain ⟨hcl, hr, c1, c2⟩ := takeD_inv ht
    have hf := (Zle c1 c2).1 hr
    obtain ⟨hml, hm3⟩ := Zqi hf
    have hrd : Rd (lsD (Zjj m.list)) (isE m.list) := by have := lsD_rd (Zjj m.list); rwa [← hml] at this
    have h9 := w9 m (lsD (Zjj m.list)) hrd (by omega) hr hf
    have h10 := w10 m (lsD (Zjj m.list)) hrd (by omega)
    rw [right6_fits.2 hf] at h10
    rw [hcl] at h9
    have h15 := w15 (.e (.sl (byE xs))) a xs xs Rd.e ha
    have e15 : decide (xs = xs) = true := by simp
    rw [e15] at h15
    simp only [takeV] at h11
    generalize Zjj m.list = ns at h9 h10 h11
    have q1 : ((0 : Int) != 0) = false := by decide
    have q2 : ((0 : Int) == 0) = true := by decide
    simp only [Msg.cs] at h11 h9 h10
    have hcv : ∀ i, wcv 4 i = [] := fun _ => rfl
    have hres : Try.f4.results.toList = [ResultVar.tmp 2] := rfl
    rw [wc, Zbm rfl Try.func4 rfl]
    cases ns with
    | nil =>
      simp only [lrD, lsD] at h11 h9 h10
      simp only [Zbj, List.length_cons, List.length_nil, Nat.reduceAdd, Nat.reduceSub, List.replicate, List.cons_append, List.nil_append, Zai, Zbw, Zb2, Za7, Zao, Za3, Zae, Zan, Zbd, Zbf, Zbg, Zas, Za9, Zcf, Zbq, Zch, List.getElem?_toArray, List.getElem?_cons_succ, List.getElem?_cons_zero, Option.bind_some, Nat.reduceLT, ne_eq, reduceCtorEq, not_false_eq_true, implies_true, Bool.false_eq_true, Option.map_some, List.set_cons_succ, List.set_cons_zero, List.getD_cons_succ, List.getD_cons_zero, Zau, Zbu, List.any_cons, List.any_nil, Zb7, Zd5, Bool.or_false, ↓reduceIte, Za0, Za6, Zat, Zd4, Zbb, Zc8, Za2, Zaf, Zap, Zab, Zag, Zaq, Zah, Zam, Zax, Zb6, Zem, Zeo, Zay, Zdm, Zdr, Zd0, Zb3, Zad, Zac, Zal, Zav, Zbr, and_self, Option.some.injEq, Yaf, Zar, Zbk, Zet, Za8, Zb1, Zb0, Zb8, Zct, Zbt, Zco, Zb4, List.take_succ_cons, List.take_zero, List.drop_succ_cons, List.drop_zero, List.map_cons, List.map_nil, Option.bind_eq_bind, Zaj, Bool.or_self, Nat.zero_add, Option.pure_def, Yab, sz27, ag27, Za1 (hcv _), Try.ntmps4, hres, ha.ownD, la, e1, h8, h11, q1, q2, h9, h10, h15, zo27, Zd7, Zg4, Zhh, Zii, Zfp, Ziw, back, Zci, taken, Zbi, Zdj, beq_self_eq_true, Nat.reduceBEq, Zdd, Zcn, Zgf, Zfb, Zd6, Zj5, Zn6, Zi8, Zf6]
    | cons n ns =>
      simp only [lrD, lsD] at h11 h9 h10
      simp only [Zbj, List.length_cons, List.length_nil, Nat.reduceAdd, Nat.reduceSub, List.replicate, List.cons_append, List.nil_append, Zai, Zbw, Zb2, Za7, Zao, Za3, Zae, Zan, Zbd, Zbf, Zbg, Zas, Za9, Zcf, Zbq, Zch, List.getElem?_toArray, List.getElem?_cons_succ, List.getElem?_cons_zero, Option.bind_some, Nat.reduceLT, ne_eq, reduceCtorEq, not_false_eq_true, implies_true, Bool.false_eq_true, Option.map_some, List.set_cons_succ, List.set_cons_zero, List.getD_cons_succ, List.getD_cons_zero, Zau, Zbu, List.any_cons, List.any_nil, Zb7, Bool.or_false, ↓reduceIte, Za0, Za6, Zat, Zd4, Zbb, Zc8, Za2, Zaf, Zap, Zab, Zag, Zaq, Zah, Zam, Zax, Zb6, Zem, Zeo, Zay, Zdm, Zdr, Zd0, Zb3, Zad, Zac, Zal, Zav, Zbr, and_self, Option.some.injEq, Zfm, Zfe, Yaf, Zar, Zbk, Zet, Za8, Zb1, Zb0, Zb8, Zct, Zbt, Zco, Zb4, List.take_succ_cons, List.take_zero, List.drop_succ_cons, List.drop_zero, List.map_cons, List.map_nil, Option.bind_eq_bind, Zaj, Bool.or_self, Bool.or_true, Nat.zero_add, Option.pure_def, Yab, sz27, ag27, Za1 (hcv _), Try.ntmps4, hres, ha.ownD, la, e1, h8, h11, q1, q2, h9, h10, h15, zo27, Zxa, Zd7, Zg4, Zhh, Zii, Zfp, Ziw, Zq9, Zqu, back, Zci, taken, Zbi, Zdj, beq_self_eq_true, Nat.reduceBEq, Zdd, Zcn, Zgf, Zfb, Zd6, Zf5, Zj5, Zn6, Zoa, Zi8, Zf6, Zhk]
end Go.Abs
namespace Go.Abs
section
variable {P : Program} {w : World} {G : Gh} {tm : List Value} {df : List Deferred} {pv : List Value} {pd : List D} {s : St}
theorem RelSt.cnt_ge (h : RelSt w G tm df pv pd s) {b : Nat} (hb : w.heap.size ≤ b) : cntS w G tm pv pd s b = 0 := by
  by_cases h0 : 0 < cntS w G tm pv pd s b
  · have := (h.cnt_lt h0).1; omega
  · omega
theorem RelSt.fresh2 (h : RelSt w G tm df pv pd s) {w' : World} {g : Nat} {arr : Array Value} {elem : TypeId} {fz : Nat × Nat} {n cap sz : Nat} {es : List (List E)}
    (hg : w.heap.size ≤ g) (hz : w.heap.size ≤ w'.heap.size) (hb : ∀ b, b < w.heap.size → w'.heap[b]? = w.heap[b]?) (hn : w'.heap[g]? = some (.cells arr elem fz))
    (hf : ∀ j, j < arr.size → w'.frozen? ⟨g, j, none⟩ = false) (h1 : n = es.length) (hc : n ≤ cap) (h0 : 0 < sz) (hsz : ∀ r ∈ es, r.length = sz)
    (hsize : cap * sz ≤ arr.size) (hh : Znd w G.S arr.toList sz es) (hwo : w'.os = w.os ∧ w'.output = w.output) :
    RelSt w' G tm df (.slice (some ⟨g, 0, none⟩) n cap :: pv) (.osl true false sz es :: pd) s ∧
      Ext w G (cntS w G tm pv pd s) w' G (cntS w' G tm (.slice (some ⟨g, 0, none⟩) n cap :: pv) (.osl true false sz es :: pd) s) := by
  obtain ⟨k1, k2⟩ := h.world hb hz hwo
  have htok : ∀ b, b ≠ g → tokT b (.slice (some ⟨g, 0, none⟩) n cap) (.osl true false sz es) = 0 := by
    intro b hne
    rw [Zda rfl]
    exact if_neg (fun x => hne x.1.symm)
  have htok1 : ∀ b, tokT b (.slice (some ⟨g, 0, none⟩) n cap) (.osl true false sz es) ≤ 1 := by
    intro b
    rw [Zda rfl]; unfold tok; simp only
    split <;> omega
  have hfr' : cntS w' G tm pv pd s g = 0 := by
    have hfr := h.cnt_ge hg
    simp only [cntS] at hfr ⊢
    rw [Zim (w := w) (w' := w') _ _ (fun i bi o h1 h2 => Zht (hb bi (h.ob_lt (List.mem_of_getElem? h1))))]
    exact hfr
  have hS : ∀ j, ¬ G.S g j := fun j hs => by have := h.S_lt hs; omega
  have hob : g ∉ G.ob := fun hb => by have := h.ob_lt hb; omega
  have hleaf : OwnOK w' G.S ⟨g, 0, none⟩ sz n cap true es := by
    refine ⟨⟨rfl, rfl⟩, arr, elem, fz, hn, by simpa using hsize, hf, fun j _ => hS j, fun _ => ⟨fun j _ => hS j, fun i r j x hi hj => ?_⟩⟩
    obtain ⟨v, q1, q2⟩ := hh i r j x hi hj
    exact ⟨v, by simpa using q1, q2.mono (fun _ _ h => h) (fun b j hs => by simp only [World.cell?, hb b (h.S_lt hs)])⟩
  refine ⟨{ L := k1.L, P := k1.P.cons (.osl _ _ _ _ _ _ _ _ h1 hc (fun hx => by simp at hx) (.inl h0) hsz (fun hx => by simp at hx)) ?_, len := h.len, nd := h.nd, obS := k1.obS, H := k1.H, S := k1.S, one := ?_, noob := ?_, dfr := k1.dfr }, ⟨k2.later, k2.size, k2.obnew, k2.Ssame, k2.same, fun b hb' => ?_, k2.wo⟩⟩
  · rw [Zdu rfl, Zfk rfl]
    exact fun _ => hleaf
  · intro b
    have a1 := k1.one b
    by_cases e : b = g
    · subst e
      have a2 := htok1 b
      simp only [cntS] at hfr'; simp only [sumZ]; omega
    · have a2 := htok b e
      simp only [sumZ]; omega
  · intro b hbo
    have a1 := k1.noob b hbo
    have a2 := htok b (fun e => hob (e ▸ hbo))
    simp only [sumZ]; omega
  · have a1 := k2.cnt b hb'
    have a2 := htok b (by omega)
    simp only [cntS, sumZ] at *; omega
theorem RelSt.letgo (h : RelSt w G tm df pv pd s) : RelSt w G tm df [] [] s ∧ Ext w G (cntS w G tm pv pd s) w G (cntS w G tm [] [] s) := by
  refine ⟨{ L := h.L, P := .nil w G, len := h.len, nd := h.nd, obS := h.obS, H := h.H, S := h.S, one := fun b => ?_, noob := fun b hb => ?_, dfr := h.dfr }, ?_⟩
  · have := h.one b; simp only [sumZ] at *; omega
  · have := h.noob b hb; simp only [sumZ] at *; omega
  · refine (Ext.refl w G (cntS w G tm pv pd s)).weaken (fun b => Yab _) (fun b _ => ?_)
    simp only [cntS, sumZ]; omega
theorem RelSt.nilOwn (h : RelSt w G tm df [] [] s) (sz : Nat) : RelSt w G tm df [.slice none 0 0] [.osl true false sz []] s ∧ ∀ b, cntS w G tm [.slice none 0 0] [.osl true false sz []] s b = cntS w G tm [] [] s b := by
  have hz : ∀ b, tokT b (.slice none 0 0) (.osl true false sz []) = 0 := fun b => by rw [Zda rfl]; rfl
  refine ⟨{ L := h.L, P := (RelL.nil w G).cons (.oslN _ _ _) ?_, len := h.len, nd := h.nd, obS := h.obS, H := h.H, S := h.S, one := fun b => ?_, noob := fun b hb => ?_, dfr := h.dfr }, fun b => ?_⟩
  · rw [Zdu rfl, Zfk rfl]
    trivial
  · have := h.one b; simp only [sumZ, hz] at *; omega
  · have := h.noob b hb; simp only [sumZ, hz] at *; omega
  · simp only [cntS, sumZ, hz]
theorem RelSt.emptyOwn (h : RelSt w G tm df [] [] s) (sz b o : Nat) (h0 : 0 < sz) : RelSt w G tm df [.slice (some ⟨b, o, none⟩) 0 0] [.osl true false sz []] s ∧ ∀ b', cntS w G tm [.slice (some ⟨b, o, none⟩) 0 0] [.osl true false sz []] s b' = cntS w G tm [] [] s b' := by
  have hz : ∀ b', tokT b' (.slice (some ⟨b, o, none⟩) 0 0) (.osl true false sz []) = 0 := fun b' => by rw [Zda rfl]; unfold tok; simp
  refine ⟨{ L := h.L, P := (RelL.nil w G).cons (.osl _ _ _ _ _ _ _ _ rfl (Yab _) (fun hx => by simp at hx) (.inl h0) (by simp) (fun hx => by simp at hx)) ?_, len := h.len, nd := h.nd, obS := h.obS, H := h.H, S := h.S, one := fun b => ?_, noob := fun b hb => ?_, dfr := h.dfr }, fun b => ?_⟩
  · rw [Zdu rfl, Zfk rfl]
    intro hx
    rcases hx with hx | hx
    · exact absurd rfl hx.2
    · omega
  · have := h.one b; simp only [sumZ, hz] at *; omega
  · have := h.noob b hb; simp only [sumZ, hz] at *; omega
  · simp only [cntS, sumZ, hz]
theorem mc_fresh {f : FuncId} {args : List D} {h : List O} {sz : Nat} {es : List (List E)} (hc : Zne P f) (h0 : 0 < sz) (hsz : ∀ r ∈ es, r.length = sz)
    (H : ∀ (w : World) (G : Gh) (vs : List Value), RelSt w G [] [] vs args (hSt h) → Calls P f vs.toArray w fun e w' => w'.os = w.os ∧ w'.output = w.output ∧ w.heap.size ≤ w'.heap.size ∧ (∀ b, b < w.heap.size → w'.heap[b]? = w.heap[b]?) ∧
      ((es = [] ∧ e = .returned (.slice none 0 0)) ∨ (∃ b o, es = [] ∧ e = .returned (.slice (some ⟨b, o, none⟩) 0 0)) ∨ ∃ g arr elem fz cap, e = .returned (.slice (some ⟨g, 0, none⟩) es.length cap) ∧ w.heap.size ≤ g ∧ w'.heap[g]? = some (.cells arr elem fz) ∧ (∀ j, j < arr.size → w'.frozen? ⟨g, j, none⟩ = false) ∧
        es.length ≤ cap ∧ cap * sz ≤ arr.size ∧ Znd w G.S arr.toList sz es)) : MC P (.fn f) args h (.val (.osl true false sz es), h) := by
  refine ⟨hc, fun w G vs cs hrel => ?_⟩
  obtain ⟨e, w', fr, ⟨r1, r2, r3, r4, r5⟩, hcom, hfn, hl⟩ := H w G vs hrel cs
  obtain ⟨l1, l2⟩ := hrel.letgo
  rcases r5 with ⟨rfl, rfl⟩ | ⟨b, o, rfl, rfl⟩ | ⟨g, arr, elem, fz, cap, rfl, q1, q2, q3, q4, q5, q6⟩
  · obtain ⟨m1, m2⟩ := l1.world r4 r3 ⟨r1, r2⟩
    obtain ⟨n1, n2⟩ := m1.nilOwn sz
    refine ⟨w', G, fr, _, _, hcom, hfn, n1, ?_, .inl ⟨rfl, hl⟩⟩
    exact (l2.trans m2).weaken (fun b => Yab _) (fun b hb => by rw [n2 b]; exact (l2.trans m2).cnt b hb)
  · obtain ⟨m1, m2⟩ := l1.world r4 r3 ⟨r1, r2⟩
    obtain ⟨n1, n2⟩ := m1.emptyOwn sz b o h0
    refine ⟨w', G, fr, _, _, hcom, hfn, n1, ?_, .inl ⟨rfl, hl⟩⟩
    exact (l2.trans m2).weaken (fun b => Yab _) (fun b hb => by rw [n2 b]; exact (l2.trans m2).cnt b hb)
  · obtain ⟨m1, m2⟩ := l1.fresh2 q1 r3 r4 q2 q3 rfl q4 h0 hsz q5 q6 ⟨r1, r2⟩
    exact ⟨w', G, fr, _, _, hcom, hfn, m1, l2.trans m2, .inl ⟨rfl, hl⟩⟩
end
end Go.Abs
namespace Go.Abs
open Go Go.Proofs Go.Shelf
def rc : Ren := ⟨fun _ => 31, fun n => if n = 4 then 4 else if n = 22 then 31 else 5, fun n => n⟩
theorem layC : SlLaysK.n4 Try.prog rc where
  mixed := by decide +kernel
  f4 := by
    show Try.prog.funcs[31]? = _
    rw [Try.func31]; rfl
  t4 := Try.underlying4
  a4 := fun w => by kernel_rfl
  z4 := fun w => by kernel_rfl
  v4 := fun w => by kernel_rfl
  t22 := Try.underlying31
  a22 := fun w => by kernel_rfl
  z22 := fun w => by kernel_rfl
  v22 := fun w => by kernel_rfl
  t5 := Try.underlying5
  i5 := by kernel_rfl
def rg : Ren := ⟨fun _ => 94, fun n => if n = 22 then 31 else if n = 25 then 5 else n, fun n => n⟩
theorem layG : Lays8.n4 Try.prog rg where
  mixed := by decide +kernel
  f4 := by
    refine ⟨"slices.Grow[[]byte,byte]", by decide, ?_⟩
    show Try.prog.funcs[94]? = _
    rw [Try.func94]; rfl
  t0 := Try.underlying0
  a0 := fun w => by kernel_rfl
  z0 := fun w => by kernel_rfl
  v0 := fun w => by kernel_rfl
  t3 := Try.underlying3
  a3 := fun w => by kernel_rfl
  z3 := fun w => by kernel_rfl
  v3 := fun w => by kernel_rfl
  t4 := Try.underlying4
  a4 := fun w => by kernel_rfl
  z4 := fun w => by kernel_rfl
  v4 := fun w => by kernel_rfl
  t9 := Try.underlying9
  a9 := fun w => by kernel_rfl
  z9 := fun w => by kernel_rfl
  v9 := fun w => by kernel_rfl
  t20 := Try.underlying20
  a20 := fun w => by kernel_rfl
  z20 := fun w => by kernel_rfl
  v20 := fun w => by kernel_rfl
  t22 := Try.underlying31
  a22 := fun w => by kernel_rfl
  z22 := fun w => by kernel_rfl
  v22 := fun w => by kernel_rfl
theorem Zr4 : ∀ {es : List (List E)}, (Zi7 es).isSome = true → ∃ xs : List Int, es = xs.map fun n => [.int .u8 n]
  | [], _ => ⟨[], rfl⟩
  | r :: es, h => by
    simp only [Zi7] at h
    cases hr : Zs1 r with
    | none => rw [hr] at h; simp at h
    | some b =>
      cases he : Zi7 es with
      | none => rw [hr, he] at h; simp at h
      | some bs =>
        obtain ⟨xs, rfl⟩ := Zr4 (es := es) (by rw [he]; rfl)
        unfold Zs1 at hr
        split at hr
        · rename_i n; exact ⟨n :: xs, rfl⟩
        · simp at hr
theorem mc_clone {d : D} {es : List (List E)} {h : List O} (hd : ownD d = false) (hs : slOf d = some es) (hb : (Zi7 es).isSome = true) (hl : es.length ≤ 1073741824) : MC Try.prog (.fn 31) [d] h (.val (.osl true false 1 es), h) := by
  obtain ⟨xs, rfl⟩ := Zr4 hb
  refine mc_fresh ⟨Try.f31, Try.func31, by decide +kernel⟩ (by omega) (by simp) (fun w G vs hrel => ?_)
  have hlen := hrel.P.len
  obtain ⟨v, rfl⟩ : ∃ v, vs = [v] := by
    cases vs with
    | nil => simp at hlen
    | cons v vs => cases vs with
      | nil => exact ⟨v, rfl⟩
      | cons a l => simp at hlen
  obtain ⟨hv, _⟩ := hrel.P.head
  rcases Znl hv hd hs with ⟨e0, rfl⟩ | ⟨b, o, cap, sz, rfl, h1, h2, h3, h4⟩
  · refine (Any.bytes_Clone_nil layC 0 0 w).mono fun e w' he => ?_
    obtain ⟨rfl, rfl⟩ := he
    exact ⟨rfl, rfl, Yab _, fun _ _ => rfl, .inl ⟨e0, rfl⟩⟩
  · have hlx : (xs.map fun n => [E.int .u8 n]).length = xs.length := by simp
    rw [hlx] at h1 hl ⊢
    refine (Any.bytes_Clone_at layC ⟨b, o, none⟩ xs.length cap xs w rfl (by omega) (fun i hi => ?_)).mono fun e w' he => ?_
    · have hi2 : (xs.map fun n => [E.int .u8 n])[i]? = some [.int .u8 xs[i]] := by simp [hi]
      have hsz : sz = 1 := by have := h3 _ (List.mem_of_getElem? hi2); simpa using this.symm
      subst hsz
      obtain ⟨_, u, q1, q2⟩ := h4 i _ hi2 0 _ rfl
      cases q2
      rw [show o + i * 1 + 0 = o + i by omega] at q1
      have ha : (⟨b, o, none⟩ : Addr).add i = ⟨b, o + i, none⟩ := by
        simp only [Addr.add]
        split
        · rename_i h; subst h; rfl
        · rfl
      rw [ha, q1]
      simp [List.getD, hi]
    · obtain ⟨v', rfl, hown, hnn, hbel⟩ := he
      refine ⟨hbel.os, hbel.output, hbel.size, hbel.block, ?_⟩
      obtain ⟨o1, o2⟩ := hown
      rcases o2 with ⟨e1, _⟩ | ⟨g, cap', cur, rfl, hg, hcell, hn, _, hsz, htk⟩
      · exact absurd e1 hnn
      · refine .inr (.inr ⟨g, cur, _, (0, 0), cap', rfl, hg, hcell, fun j hj => by simp only [World.frozen?, hcell]; simp, hn, by omega, fun i r j x hi hj => ?_⟩)
        have hi3 : i < xs.length := by have := (List.getElem?_eq_some_iff.1 hi).1; simpa using this
        have hr : r = [.int .u8 xs[i]] := by simp [hi3] at hi; exact hi.symm
        subst hr
        cases j with
        | succ j => simp at hj
        | zero =>
          simp at hj; subst hj
          refine ⟨.int .u8 xs[i], ?_, .int _ _⟩
          have : (cur.toList.take (xs.length * 1))[i]? = some (Value.int .u8 xs[i]) := by rw [htk]; simp [hi3]
          rw [List.getElem?_take_of_lt (by omega)] at this
          simpa using this
theorem mc_grow {n : Int} {h : List O} (h0 : 0 ≤ n) (hl : n ≤ 1073741824) : MC Try.prog (.fn 94) [.osl false true 0 [], .e (.int .i64 n)] h (.val (.osl true false 1 []), h) := by
  obtain ⟨m, rfl⟩ : ∃ m : Nat, n = m := ⟨n.toNat, by omega⟩
  refine mc_fresh ⟨Try.f94, Try.func94, by decide +kernel⟩ (by omega) (by simp) (fun w G vs hrel => ?_)
  have hlen := hrel.P.len
  obtain ⟨v, u, rfl⟩ : ∃ v u, vs = [v, u] := by
    cases vs with
    | nil => simp at hlen
    | cons v vs => cases vs with
      | nil => simp at hlen
      | cons a l => cases l with
        | nil => exact ⟨v, a, rfl⟩
        | cons _ _ => simp at hlen
  obtain ⟨hv, _⟩ := hrel.P.head
  obtain ⟨hu, _⟩ := hrel.P.tail.head
  have hu' : u = .int .i64 m := by cases hu with | e _ _ h => cases h; rfl
  subst hu'
  have hbase : ∃ base, v = .slice base 0 0 ∧ ∀ a, base = some a → a.spot = none := by
    cases hv with
    | oslN => exact ⟨none, rfl, by simp⟩
    | osl b o n cap _ _ _ _ hn hc hfu _ _ _ =>
      simp at hn; subst hn
      have := hfu rfl
      subst this
      exact ⟨_, rfl, fun a e => by cases e; rfl⟩
  obtain ⟨base, rfl, hsp⟩ := hbase
  by_cases hm : m = 0
  · subst hm
    refine (Any8.slices_Grow_room layG base 0 0 0 w (by omega) (by omega) (by omega) (by omega)).mono fun e w' he => ?_
    obtain ⟨rfl, rfl⟩ := he
    refine ⟨rfl, rfl, Yab _, fun _ _ => rfl, ?_⟩
    cases base with
    | none => exact .inl ⟨rfl, rfl⟩
    | some a =>
      obtain ⟨ab, ao, asp⟩ := a
      have := hsp _ rfl
      simp only at this
      subst this
      exact .inr (.inl ⟨ab, ao, rfl, rfl⟩)
  · have hinfo : ∃ i0, Try.prog.info? 5 = some i0 ∧ i0.zero = some (.int .u8 0) ∧ i0.size = 1 ∧ i0.bytes = 1 := by
      have := layC.i5
      simp only [Option.map_eq_some_iff, Prod.mk.injEq] at this
      exact this
    obtain ⟨i0, q1, q2, q3, q4⟩ := hinfo
    refine (Any8.slices_Grow_grow layG i0 (.int .u8 0) q1 q2 (by omega) base 0 0 m [] w (by omega) (by omega) (by rw [q4]; omega) (by omega) (by simp) (fun _ => rfl) (fun a _ j v hj => by simp at hj)).mono fun e w' he => ?_
    obtain ⟨rfl, rfl⟩ := he
    have hg := grownCap_ge w (0 + m) 0 (rg.t 25)
    generalize grownCap w (0 + m) 0 (rg.t 25) = cap at hg
    have hblk : ∀ o : Obj, (w.drew.alloc o).heap[w.heap.size]? = some o := fun o => by rw [Zha]; exact if_pos rfl
    refine ⟨rfl, rfl, by simp, fun b hb => Zfw _ _ hb, .inr (.inr ⟨w.heap.size, _, _, (0, 0), cap, rfl, Yab _, hblk _, fun j hj => by simp only [World.frozen?, hblk]; simp, by simp, ?_, fun i r j x hi hj => by simp at hi⟩)⟩
    simp only [Array.size_append, size_zeroCells, Value.cells]
    simp; omega
theorem wpr_mc : ∀ f args d h, wpr f args = some d → MC Try.prog (.fn f) args h (.val d, h) := by
  intro f args d h hw
  unfold wpr at hw
  split at hw
  · rename_i hf; subst hf
    split at hw
    · rename_i d0
      split at hw
      · simp at hw
      · rename_i ho
        split at hw
        · rename_i es hs
          split at hw
          · rename_i hc
            simp only [Bool.and_eq_true, decide_eq_true_eq] at hc
            cases hw
            exact mc_clone (by simpa using ho) hs hc.1 hc.2
          · simp at hw
        · simp at hw
    · simp at hw
  · split at hw
    · rename_i hf; subst hf
      split at hw
      · rename_i n
        split at hw
        · rename_i hc
          cases hw
          exact mc_grow hc.1 hc.2
        · simp at hw
      · simp at hw
    · simp at hw
theorem Ztl {f : FuncId} {args : List D} {h : List O} {r : Out × List O} (hc : call Try.prog wpr wcv (.fn f) args h = some r) : MC Try.prog (.fn f) args h r :=
  (sound (P := Try.prog) (pr := wpr) (cv := wcv) (by decide +kernel) wpr_mc).2.1 _ _ _ _ hc
end Go.Abs
namespace Go.Abs
open Go Go.Proofs Go.ChangeShapes Go.WideShapes Go.ChangeAt Go.RowKit
def seen (W : World) : Gh := { ob := [], S := fun b j => ∃ v, W.cell? ⟨b, j, none⟩ = some v }
theorem leaf0_e' {w : World} {S : Nat → Nat → Prop} {v : Value} {x : E} : Leaf0 w S v (.e x) := by
  unfold Leaf0; split
  · rename_i hd; cases hd
  · trivial
inductive FlatD : D → Prop where
  | e (x : E) : FlatD (.e x)
  | agg (xs : List E) : FlatD (.agg (xs.map .e))
theorem Zxh {w : World} {S : Nat → Nat → Prop} {v : Value} {d : D} (h : FlatD d) : LeafT w S v d ∧ ∀ b, tokT b v d = 0 := by
  cases h with
  | e x =>
    have h1 : LeafT w S v (.e x) = Leaf0 w S v (.e x) := by
      unfold LeafT; split
      · rename_i hd; cases hd
      · unfold LeafA; split
        · rename_i hd _; cases hd
        · rfl
    have h2 : ∀ b, tokT b v (.e x) = tok b v (.e x) := by
      intro b; unfold tokT; split
      · rename_i hd; cases hd
      · unfold tokA; split
        · rename_i hd _; cases hd
        · rfl
    exact ⟨by rw [h1]; exact leaf0_e', fun b => by rw [h2]; exact Zme _ _ _⟩
  | agg xs =>
    have h0 : ∀ (i : Nat) (d : D), (xs.map D.e)[i]? = some d → ∃ x, d = .e x := by
      intro i d hi
      simp only [List.getElem?_map, Option.map_eq_some_iff] at hi
      obtain ⟨x, _, rfl⟩ := hi
      exact ⟨x, rfl⟩
    have h1 : LeafT w S v (.agg (xs.map .e)) = LeafA w S v (.agg (xs.map .e)) := by
      unfold LeafT; split
      · rename_i hd; cases hd
      · rfl
    have h2 : ∀ b, tokT b v (.agg (xs.map .e)) = tokA b v (.agg (xs.map .e)) := by
      intro b; unfold tokT; split
      · rename_i hd; cases hd
      · rfl
    refine ⟨?_, fun b => ?_⟩
    · rw [h1]; unfold LeafA; split
      · rename_i hd
        cases hd
        intro i v d hi hd
        obtain ⟨x, rfl⟩ := h0 i d hd
        exact leaf0_e'
      · unfold Leaf0; split
        · rename_i hd _; cases hd
        · trivial
    · rw [h2]; unfold tokA; split
      · rename_i hd
        cases hd
        exact Zhd _ _ _ fun i v d hi hd => by
          obtain ⟨x, rfl⟩ := h0 i d hd
          exact Zme _ _ _
      · unfold tok; split
        · rename_i hd _; cases hd
        · rfl
theorem start {W : World} {vs : List Value} {ds : List D} (hl : vs.length = ds.length) (hr : ∀ (i : Nat) v d, vs[i]? = some v → ds[i]? = some d → RelD W (seen W) v d) (hf : ∀ d ∈ ds, FlatD d) :
    RelSt W (seen W) [] [] vs ds (hSt []) ∧ ∀ b, cntS W (seen W) [] vs ds (hSt []) b = 0 := by
  have hz : ∀ b, sumZ (tokT b) vs ds = 0 := fun b => Zhd _ _ _ fun i v d hi hd => (Zxh (w := W) (S := (seen W).S) (hf d (List.mem_of_getElem? hd))).2 b
  have hc : ∀ b, sumZ (tokT b) [] [] + sumZ (tokT b) vs ds + hsum W b [] [] = 0 := fun b => by simp [hz b, sumZ, hsum]
  refine ⟨{ L := .nil _ _, P := ⟨hl, hr, fun i v d hi hd => (Zxh (hf d (List.mem_of_getElem? hd))).1⟩, len := rfl, nd := .nil, obS := fun i b h => by simp [seen] at h, H := fun i b o h => by simp [seen] at h, S := fun b j h => h, one := fun b => by rw [show (hSt []).h = [] from rfl]; have := hc b; simp only [seen] at *; omega, noob := fun b h => by simp [seen] at h, dfr := .nil }, fun b => hc b⟩
structure Kept (W W' : World) : Prop where
  os : W'.os = W.os
  output : W'.output = W.output
  size : W.heap.size ≤ W'.heap.size
  block : ∀ b, b < W.heap.size → W'.heap[b]? = W.heap[b]?
theorem calls_of {f : FuncId} {vs : List Value} {ds : List D} {W : World} {b : Bool} (hc : call Try.prog wpr wcv (.fn f) ds [] = some (.val (.bool b), []))
    (hl : vs.length = ds.length) (hr : ∀ (i : Nat) v d, vs[i]? = some v → ds[i]? = some d → RelD W (seen W) v d) (hf : ∀ d ∈ ds, FlatD d) :
    Calls Try.prog f vs.toArray W fun e W' => e = .returned (.bool b) ∧ Kept W W' := by
  obtain ⟨_, hm⟩ := Ztl hc
  obtain ⟨hs, hz⟩ := start hl hr hf
  intro cs
  obtain ⟨w', G', fr, v, d, hst, hfn, hrel, hx, hd⟩ := hm W (seen W) vs cs hs
  rcases hd with ⟨h1, h2⟩ | ⟨h1, _⟩
  · cases h1
    have hv := hrel.P.rel 0 v _ rfl rfl
    cases hv with
    | e _ _ he =>
      cases he
      refine ⟨_, w', fr, ⟨rfl, hx.wo.1, hx.wo.2, hx.size, fun b hb => hx.same b hb (hz b) (by simp [seen])⟩, hst, hfn, h2⟩
  · cases h1
section
variable {H : Type} {enc : TypeId × Value → H} {P : Program} {W : World}
theorem addr_none {a : Addr} (h : a.spot = none) (i : Nat) : a.add i = ⟨a.block, a.off + i, none⟩ := by
  cases a; simp only at h; subst h; simp [Addr.add]
theorem rel_ints {t e : TypeId} {k : IntKind} {n : Nat} {v : Value} {x : DataW H × List MemPlace} (ht : P.underlying t = some (.slice e)) (he : P.underlying e = some (.int k)) (hc : P.cellsOf e = 1)
    (hv : ∀ a len cap, v = .slice (some a) len cap → a.spot = none) (h : DataW.trod enc P W 0 (fun _ => true) true n t [v] = some x) :
    ∃ zs : List Int, RelE W (seen W).S v (.sl (zs.map fun z => [.int k z])) ∧ ∀ z ∈ zs, (Lit.int k z).wf = true := by
  rcases open_ints ht he hc h with ⟨h1, _⟩ | ⟨a, len, cap, zs, h1, _, hl, _, hz, _, hcell, hw⟩
  · obtain rfl := List.singleton_inj.1 h1
    exact ⟨[], .nilsl, by simp⟩
  · obtain rfl := List.singleton_inj.1 h1
    have hs := hv a len cap rfl
    simp only [if_true] at hz
    refine ⟨zs.take len, ?_, fun z hz => hw z (List.mem_of_mem_take hz)⟩
    have hlen : ((zs.take len).map fun z => [E.int k z]).length = len := by simp; omega
    have := RelE.of_rows (w := W) (S := (seen W).S) (b := a.block) (o := a.off) (cap := cap) (sz := 1) (es := (zs.take len).map fun z => [E.int k z]) (by omega) (by decide)
      (by intro r hr; obtain ⟨z, _, rfl⟩ := List.mem_map.1 hr; rfl) (by
        intro i r hi j y hj
        simp only [List.getElem?_map, Option.map_eq_some_iff] at hi
        obtain ⟨z, hz', rfl⟩ := hi
        have hi : i < len := by
          have := (List.getElem?_eq_some_iff.1 hz').1
          simp at this; omega
        cases j with
        | succ j => simp at hj
        | zero =>
          simp at hj
          subst hj
          have := hcell i (by omega)
          rw [addr_none hs] at this
          rw [List.getElem?_take, if_pos hi] at hz'
          have e : zs.getD i 0 = z := by rw [List.getD_eq_getElem?_getD, hz']; rfl
          rw [e] at this
          simp only [Nat.mul_one, Nat.add_zero]
          exact ⟨⟨_, this⟩, _, this, .int k z⟩)
    rw [hlen] at this
    have ea : a = ⟨a.block, a.off, none⟩ := by cases a; simp only at hs; subst hs; rfl
    rw [ea]
    exact this
end
end Go.Abs
namespace Go.Abs
open Go Go.Proofs Go.ChangeShapes Go.WideShapes Go.ChangeAt Go.RowKit
set_option maxRecDepth 100000
section
variable {P : Program} {W : World} {base : Nat} {v : Value} {t : TypeId}
theorem wide_slice {e : TypeId} (ht : P.underlying t = some (.slice e)) (h : Cell.okWide P W .any base t v) : ∀ a len cap, v = .slice (some a) len cap → a.spot = none := by
  rintro a len cap rfl
  unfold Cell.okWide at h
  rw [ht] at h
  simp [Cell.ok, ht, World.has] at h
  exact h.2.2.2.1
end
end Go.Abs
namespace Go.Abs
open Go Go.Proofs Go.ChangeShapes Go.WideShapes Go.ChangeAt Go.RowKit
theorem own_knob : ownKnob Try.prog.godebug = none := by kernel_rfl
theorem laid_out : laidOutB Try.prog = true := by kernel_rfl
section
variable {H : Type} {enc : TypeId × Value → H} {P : Program}
theorem kept_same {W W' : World} (h : Kept W W') {p : MemPlace} (hp : p.block < W.heap.size) : W.sameAt W' p := by
  cases p with
  | cell b o => exact World.cell?_of_block (w := W) (h.block b hp)
  | map b => exact h.block b hp
theorem kept_all {W W' : World} (hl : laidOutB P = true) {sp : Nat → Bool} : ∀ {ts : List TypeId} {vs : List Value} {ds : List (DataW H)} {ps : List MemPlace}, (∀ t ∈ ts, P.readableRec t = true ∧ t < P.types.size) →
    DataW.TrodAll enc P W 0 (fun _ => true) true ts vs ds ps → (∀ p ∈ ps, W.sameAt W' p) → (∀ p ∈ ps, sp p.block = true) → DataW.TrodAll enc P W' 0 sp true ts vs ds ps
  | [], [], [], _, _, h, _, _ => h
  | _ :: _, _ :: _, _ :: _, _, hT, ⟨p, q, h1, h2, e⟩, hs, hp =>
    ⟨p, q, WideElems.Trod_stays hl (hT _ (List.mem_cons.2 (.inl rfl))).1 (hT _ (List.mem_cons.2 (.inl rfl))).2 h1 (fun x hx => hs x (by rw [e]; exact List.mem_append_left _ hx)) (fun x hx => hp x (by rw [e]; exact List.mem_append_left _ hx)),
      kept_all hl (fun t ht => hT t (List.mem_cons.2 (.inr ht))) h2 (fun x hx => hs x (by rw [e]; exact List.mem_append_right _ hx)) (fun x hx => hp x (by rw [e]; exact List.mem_append_right _ hx)), e⟩
theorem Zwt {f : Func} {s : ChangeSpec} {apart fresh handsOn again : Bool} {W W' : World} {args : Array Value} {v : Value} {ds : List (DataW H)} {before : List MemPlace}
    (hW : DataW.Whole enc P f.params.toList s.vars apart W args.toList ds [] before) (hv0 : s.vars = []) (hk : Kept W W')
    (hl : laidOutB P = true) (hr : ∀ t ∈ f.params.toList, P.readableRec t = true ∧ t < P.types.size)
    (hres : ∀ (b : Nat) (sp : Nat → Bool) (hd : Bool), DataW.TrodAll enc P W' b sp hd f.resultTypes.toList (v.resultList f.resultTypes.size) (s.fn H ds).results [])
    (hargs : (s.fn H ds).args = ds) (hvars : (s.fn H ds).vars = [])
    (hok : ∀ (j : Nat) (t : TypeId) (r : Value), f.resultTypes[j]? = some t → (v.resultList f.resultTypes.size)[j]? = some r → Value.okWide P W' .any 0 t r) :
    s.post enc P f apart fresh handsOn again W args v W' := by
  have hlt := hW.lt
  have hW0 := hW
  obtain ⟨p, q, hA, hV, rfl, hz, hn⟩ := hW
  rw [hv0] at hV
  obtain ⟨_, rfl⟩ := trodVars_none hV
  simp only [Yaf] at hlt hz hn hW0
  have hA2 : ∀ sp : Nat → Bool, (∀ x ∈ p, sp x.block = true) → DataW.TrodAll enc P W' 0 sp true f.params.toList args.toList ds p := fun sp hsp =>
    kept_all hl hr hA (fun x hx => kept_same hk (hlt x hx)) hsp
  have hds : ds ++ ([] : List (DataW H)) = ds := Yaf ds
  refine ⟨ds, [], p, [], p, [], by simpa using hW0, by rw [hds]; exact hres _ _ _, by rw [hds, hargs]; exact hA2 _ (fun x hx => by simpa using hlt x hx), by rw [hds, hvars, hv0]; exact rfl, ?_, fun _ => ⟨hok, _, [], p, ⟨p, [], trodAll_append (hA2 _ (fun _ _ => rfl)) (hres _ _ _), by rw [hv0]; exact rfl, by simp, ?_, by simpa using hn⟩, fun x hx _ => hx⟩⟩
  · refine ⟨hk.os, hk.output, fun i hi => ?_⟩
    rw [hk.block i hi]
    cases W.heap[i]? with
    | none => rfl
    | some o => cases o <;> simp
  · intro b off hb
    have := hz b off (by simpa using hb)
    unfold World.frozen? at this ⊢
    have hb' : b < W.heap.size := hlt (.cell b off) (by simpa using hb)
    rw [hk.block b hb']
    exact this
end
theorem Zwc {W : World} : Value.okWide Try.prog W .any 0 4 (.bool true) := by simp [Value.okWide, Try.underlying4, Cell.okWide, Cell.ok]
end Go.Abs
namespace Go.Abs
open Go Go.Proofs Go.ChangeShapes Go.WideShapes Go.ChangeAt Go.RowKit
set_option maxRecDepth 100000
theorem cells5 : Try.prog.cellsOf 5 = 1 := by kernel_rfl
theorem bytes_of {zs : List Int} (h : ∀ z ∈ zs, (Lit.int .u8 z).wf = true) : ∃ xs : List UInt8, byE xs = zs.map fun z => [.int .u8 z] := by
  induction zs with
  | nil => exact ⟨[], rfl⟩
  | cons z zs ih =>
    obtain ⟨xs, hx⟩ := ih fun y hy => h y (List.mem_cons.2 (.inr hy))
    have hz := h z (List.mem_cons.2 (.inl rfl))
    simp only [Lit.wf, Bool.and_eq_true, decide_eq_true_eq] at hz
    have h1 : (0 : Int) ≤ z := hz.1
    have h2 : z ≤ 255 := hz.2
    refine ⟨UInt8.ofNat z.toNat :: xs, ?_⟩
    have e : ((UInt8.ofNat z.toNat).toNat : Int) = z := by
      have : (UInt8.ofNat z.toNat).toNat = z.toNat % 256 := by simp
      rw [this]; omega
    simp only [byE, List.map_cons, byR, e] at hx ⊢
    rw [hx]
theorem Zuf {H : Type} {enc : TypeId × Value → H} {W : World} {base : Nat} {v : Value} {d : DataW H} {p : List MemPlace} (hv : Value.okWide Try.prog W .any base 31 v) (h : DataW.Trod enc Try.prog W 0 (fun _ => true) true 31 v d p) :
    ∃ xs : List UInt8, RelD W (seen W) v (.e (.sl (byE xs))) := by
  have hv' : Cell.okWide Try.prog W .any base 31 v := by simpa only [Value.okWide, Try.underlying31] using hv
  have hsp := wide_slice Try.underlying31 hv'
  obtain ⟨fuel, hf⟩ := h
  have hc : v.cells.toList = [v] := by
    unfold Cell.okWide at hv'
    rw [Try.underlying31] at hv'
    cases v <;> simp [Cell.ok, Try.underlying31, Value.cells] at hv' ⊢
  rw [hc] at hf
  obtain ⟨zs, hz, hw⟩ := rel_ints Try.underlying31 Try.underlying5 cells5 hsp hf
  obtain ⟨xs, hx⟩ := bytes_of hw
  exact ⟨xs, .e _ _ (by rw [hx]; exact hz)⟩
end Go.Abs
