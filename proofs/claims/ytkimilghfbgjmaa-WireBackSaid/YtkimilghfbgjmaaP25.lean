/-
  WIRE: behind a call that keeps all that was there. WIRE: what a message of its kind has is read. WIRE: Read, whatever is read to its end. No condition.
-/
import Derived.Test.YtkimilghfbgjmaaP24
import Derived.Test.YtkimilghfbgjmaaRows
import Derived.Test.YtkimilghfbgjmaaP23

namespace Go.Abs
open Go Go.Proofs Go.ChangeShapes Go.WideShapes Go.ChangeAt Go.RowKit

theorem own_knob : ownKnob Try.prog.godebug = none := by kernel_rfl
theorem laid_out : laidOutB Try.prog = true := by kernel_rfl

section
variable {H : Type} {enc : TypeId × Value → H} {P : Program}
theorem kept_same {W W' : World} (h : Kept W W') {p : MemPlace} (hp : p.block < W.heap.size) : W.sameAt W' p := by
  cases p with
  | cell b o => exact World.cell?_of_block (w := W) (h.block b hp)
  | map b => exact h.block b hp
theorem kept_all {W W' : World} (hl : laidOutB P = true) {sp : Nat → Bool} : ∀ {ts : List TypeId} {vs : List Value} {ds : List (DataW H)} {ps : List MemPlace}, (∀ t ∈ ts, P.readableRec t = true ∧ t < P.types.size) →
    DataW.TrodAll enc P W 0 (fun _ => true) true ts vs ds ps → (∀ p ∈ ps, W.sameAt W' p) → (∀ p ∈ ps, sp p.block = true) → DataW.TrodAll enc P W' 0 sp true ts vs ds ps
  | [], [], [], _, _, h, _, _ => h
  | _ :: _, _ :: _, _ :: _, _, hT, ⟨p, q, h1, h2, e⟩, hs, hp =>
    ⟨p, q, WideElems.Trod_stays hl (hT _ (List.mem_cons.2 (.inl rfl))).1 (hT _ (List.mem_cons.2 (.inl rfl))).2 h1 (fun x hx => hs x (by rw [e]; exact List.mem_append_left _ hx)) (fun x hx => hp x (by rw [e]; exact List.mem_append_left _ hx)),
      kept_all hl (fun t ht => hT t (List.mem_cons.2 (.inr ht))) h2 (fun x hx => hs x (by rw [e]; exact List.mem_append_right _ hx)) (fun x hx => hp x (by rw [e]; exact List.mem_append_right _ hx)), e⟩
/-- Behind a call that keeps all blocks, and answers what has no places of its own. -/
theorem post_kept {f : Func} {s : ChangeSpec} {apart fresh handsOn again : Bool} {W W' : World} {args : Array Value} {v : Value} {ds : List (DataW H)} {before : List MemPlace}
    (hW : DataW.Whole enc P f.params.toList s.vars apart W args.toList ds [] before) (hv0 : s.vars = []) (hk : Kept W W')
    (hl : laidOutB P = true) (hr : ∀ t ∈ f.params.toList, P.readableRec t = true ∧ t < P.types.size)
    (hres : ∀ (b : Nat) (sp : Nat → Bool) (hd : Bool), DataW.TrodAll enc P W' b sp hd f.resultTypes.toList (v.resultList f.resultTypes.size) (s.fn H ds).results [])
    (hargs : (s.fn H ds).args = ds) (hvars : (s.fn H ds).vars = [])
    (hok : ∀ (j : Nat) (t : TypeId) (r : Value), f.resultTypes[j]? = some t → (v.resultList f.resultTypes.size)[j]? = some r → Value.okWide P W' .any 0 t r) :
    s.post enc P f apart fresh handsOn again W args v W' := by
  have hlt := hW.lt
  have hW0 := hW
  obtain ⟨p, q, hA, hV, rfl, hz, hn⟩ := hW
  rw [hv0] at hV
  obtain ⟨_, rfl⟩ := trodVars_none hV
  simp only [List.append_nil] at hlt hz hn hW0
  have hA2 : ∀ sp : Nat → Bool, (∀ x ∈ p, sp x.block = true) → DataW.TrodAll enc P W' 0 sp true f.params.toList args.toList ds p := fun sp hsp =>
    kept_all hl hr hA (fun x hx => kept_same hk (hlt x hx)) hsp
  have hds : ds ++ ([] : List (DataW H)) = ds := List.append_nil ds
  refine ⟨ds, [], p, [], p, [], by simpa using hW0, by rw [hds]; exact hres _ _ _, by rw [hds, hargs]; exact hA2 _ (fun x hx => by simpa using hlt x hx), by rw [hds, hvars, hv0]; exact rfl, ?_, fun _ => ⟨hok, _, [], p, ⟨p, [], trodAll_append (hA2 _ (fun _ _ => rfl)) (hres _ _ _), by rw [hv0]; exact rfl, by simp, ?_, by simpa using hn⟩, fun x hx _ => hx⟩⟩
  · refine ⟨hk.os, hk.output, fun i hi => ?_⟩
    rw [hk.block i hi]
    cases W.heap[i]? with
    | none => rfl
    | some o => cases o <;> simp
  · intro b off hb
    have := hz b off (by simpa using hb)
    unfold World.frozen? at this ⊢
    have hb' : b < W.heap.size := hlt (.cell b off) (by simpa using hb)
    rw [hk.block b hb']
    exact this
end

theorem wide_true {W : World} : Value.okWide Try.prog W .any 0 4 (.bool true) := by simp [Value.okWide, Try.underlying4, Cell.okWide, Cell.ok]
end Go.Abs

namespace Go.Abs
open Go Go.Proofs
set_option maxRecDepth 10000
set_option maxHeartbeats 4000000

theorem Zhn {i o : Nat} : exc0 (.ptr i o) = false := rfl
theorem Zhl {i o : Nat} : shr0 (.ptr i o) = .ptr i o := rfl
section
variable (h : List O) (m : Msg) (lst e0 : D) (l : List UInt8) (hs : List D) (mp : O) (hl : l.length ≤ 100000)
  include hl
theorem c62 {k : Nat} {b : Bool} {r1 r2 : List UInt8} (t1 : parN l = some (k, r1)) (t2 : parB r1 = some (b, r2)) :
    wc 62 [.ptr (h.length + 2) 0, .ptr (h.length + 5) 0] (h ++ [.cells (m.cs lst), .cells [e0], .cells [rdC l], .cells hs, .cells [.ptr (h.length + 2) 0], .cells [.ptr h.length 0], mp]) =
      some (.val Zav, h ++ [.cells (({ m with key := k, slow := b } : Msg).cs lst), .cells [e0], .cells [rdC r2], .cells hs, .cells [.ptr (h.length + 2) 0], .cells [.ptr h.length 0], mp]) := by
  have b1 := Zfw t1
  have a1 := r61_ok (h ++ [.cells (m.cs lst), .cells [e0], .cells [rdC l], .cells hs, .cells [.ptr (h.length + 2) 0], .cells [.ptr h.length 0], mp]) (h.length + 2) l (by simp [Zbp]) hl t1
  have a2 := r63_ok (h ++ [.cells (({ m with key := k } : Msg).cs lst), .cells [e0], .cells [rdC r1], .cells hs, .cells [.ptr (h.length + 2) 0], .cells [.ptr h.length 0], mp]) (h.length + 2) r1 (by simp [Zbp]) (by omega) t2
  simp only [Msg.cs, Ze4] at a1 a2
  have hcv : ∀ i, wcv 62 i = [] := fun _ => rfl
  have hres : Try.f62.results.toList = [] := rfl
  rw [wc, Zbt rfl Try.func62 rfl]
  simp only [Zbi, List.length_cons, List.length_nil, Nat.reduceAdd, Nat.reduceSub, List.replicate, List.cons_append, List.nil_append, Zaj, Nat.zero_add, Try.ntmps62]
  refine (Zf8 (l := plan62_0) (by exact plan62_0_eq)).trans ?_
  simp only [List.length_cons, List.length_nil, Nat.reduceAdd, List.cons_append, List.nil_append, Za3, List.getElem?_toArray, List.getElem?_cons_succ, List.getElem?_cons_zero, Option.bind_some, Nat.reduceLeDiff, ne_eq, reduceCtorEq, not_false_eq_true, implies_true, Bool.not_false, Bool.false_eq_true, Option.map_some, List.set_cons_succ, List.set_cons_zero, List.getD_cons_succ, List.getD_cons_zero, Zau, Zbk, List.any_cons, List.any_nil, ↓reduceIte, Zbc, Zbd, Za5, Za4, Zac, Zaw, Zap, and_self, List.toList_toArray, Option.some.injEq, Ze5, kd_l, Zc5, Zc4, kd_r, Zcf, Zee, Zch, Zbn, Zc6, Zba, Zdg, Zcs, Zci, Zde, Zbx, Zbw, Zdx, Zbu, Op.operands, Ze2, List.foldl_nil, Zas, Zbh, Zbg, Zcz, Zeu, Zad, Zb6, Zb5, Zb4, Zc9, Zco, Zcq, List.take_succ_cons, List.take_zero, List.drop_succ_cons, List.drop_zero, Za8, Bool.or_self, Nat.zero_add, Nat.succ_ne_zero, Nat.le_refl, sz3, st27, hcv, kd_h, Zca, Zd4, Zd5, Zex, Ze3, Zdk, Zh2, Zcb, Zcc, Zcd, List.all_cons, List.all_nil, Bool.and_self, plan62_0, a1, Msg.cs, sz67, ag67, Zhn, Zhl]
  refine (Zf8 (l := plan62_1) (by exact plan62_1_eq)).trans ?_
  simp only [List.length_cons, List.length_nil, Nat.reduceAdd, List.cons_append, List.nil_append, List.getElem?_toArray, List.getElem?_cons_succ, List.getElem?_cons_zero, Option.bind_some, Nat.reduceLeDiff, ne_eq, reduceCtorEq, not_false_eq_true, implies_true, Bool.not_false, Bool.false_eq_true, Option.map_some, List.set_cons_succ, List.set_cons_zero, List.getD_cons_succ, List.getD_cons_zero, Zau, Zbk, List.any_cons, List.any_nil, ↓reduceIte, Zbc, Zbd, Za5, Za4, Zac, Zaw, Zap, Zer, Zab, Zaa, Zcr, and_self, List.toList_toArray, Option.some.injEq, Ze5, kd_l, Zc5, Zc4, kd_r, Zcf, Zee, Zch, Zbn, Zc6, Zba, Zdg, Zcs, Zci, Zde, Zbx, Zbw, Zdx, Zbu, Op.operands, Ze2, List.foldl_nil, Zas, Zbh, Zbg, Zcz, Zeu, hlen, Zad, Zb6, Zb5, Zb4, Zc9, Zco, Zcq, List.take_succ_cons, List.take_zero, List.drop_succ_cons, List.drop_zero, Za8, Bool.or_self, Nat.zero_add, Nat.succ_ne_zero, Nat.le_refl, sz4, st27, hcv, hres, kd_h, Zca, Zd4, Zd5, Zex, Ze3, Zdk, Zh2, Zcb, Zcc, Zcd, List.all_cons, List.all_nil, Bool.and_self, plan62_1, a2, sz67, ag67, Zhn, Zhl, Zf0]
theorem c70 {k : Nat} {b : Bool} {r1 r2 : List UInt8} (t1 : parN l = some (k, r1)) (t2 : parB r1 = some (b, r2)) :
    wc 70 [.ptr (h.length + 2) 0, .ptr (h.length + 5) 0] (h ++ [.cells (m.cs lst), .cells [e0], .cells [rdC l], .cells hs, .cells [.ptr (h.length + 2) 0], .cells [.ptr h.length 0], mp]) =
      some (.val Zav, h ++ [.cells (({ m with place := k, done := b } : Msg).cs lst), .cells [e0], .cells [rdC r2], .cells hs, .cells [.ptr (h.length + 2) 0], .cells [.ptr h.length 0], mp]) := by
  have b1 := Zfw t1
  have a1 := r61_ok (h ++ [.cells (m.cs lst), .cells [e0], .cells [rdC l], .cells hs, .cells [.ptr (h.length + 2) 0], .cells [.ptr h.length 0], mp]) (h.length + 2) l (by simp [Zbp]) hl t1
  have a2 := r63_ok (h ++ [.cells (({ m with place := k } : Msg).cs lst), .cells [e0], .cells [rdC r1], .cells hs, .cells [.ptr (h.length + 2) 0], .cells [.ptr h.length 0], mp]) (h.length + 2) r1 (by simp [Zbp]) (by omega) t2
  simp only [Msg.cs, Ze4] at a1 a2
  have hcv : ∀ i, wcv 70 i = [] := fun _ => rfl
  have hres : Try.f70.results.toList = [] := rfl
  rw [wc, Zbt rfl Try.func70 rfl]
  simp only [Zbi, List.length_cons, List.length_nil, Nat.reduceAdd, Nat.reduceSub, List.replicate, List.cons_append, List.nil_append, Zaj, Nat.zero_add, Try.ntmps70]
  refine (Zf8 (l := plan70_0) (by exact plan70_0_eq)).trans ?_
  simp only [List.length_cons, List.length_nil, Nat.reduceAdd, List.cons_append, List.nil_append, Za3, List.getElem?_toArray, List.getElem?_cons_succ, List.getElem?_cons_zero, Option.bind_some, Nat.reduceLeDiff, ne_eq, reduceCtorEq, not_false_eq_true, implies_true, Bool.not_false, Bool.false_eq_true, Option.map_some, List.set_cons_succ, List.set_cons_zero, List.getD_cons_succ, List.getD_cons_zero, Zau, Zbk, List.any_cons, List.any_nil, ↓reduceIte, Zbc, Zbd, Za5, Za4, Zac, Zaw, Zap, and_self, List.toList_toArray, Option.some.injEq, Ze5, kd_l, Zc5, Zc4, kd_r, Zcf, Zee, Zch, Zbn, Zc6, Zba, Zdg, Zcs, Zci, Zde, Zbx, Zbw, Zdx, Zbu, Op.operands, Ze2, List.foldl_nil, Zas, Zbh, Zbg, Zcz, Zeu, Zad, Zb6, Zb5, Zb4, Zc9, Zco, Zcq, List.take_succ_cons, List.take_zero, List.drop_succ_cons, List.drop_zero, Za8, Bool.or_self, Nat.zero_add, Nat.succ_ne_zero, Nat.le_refl, sz3, st27, hcv, kd_h, Zca, Zd4, Zd5, Zex, Ze3, Zdk, Zh2, Zcb, Zcc, Zcd, List.all_cons, List.all_nil, Bool.and_self, plan70_0, a1, Msg.cs, sz67, ag67, Zhn, Zhl]
  refine (Zf8 (l := plan70_1) (by exact plan70_1_eq)).trans ?_
  simp only [List.length_cons, List.length_nil, Nat.reduceAdd, List.cons_append, List.nil_append, List.getElem?_toArray, List.getElem?_cons_succ, List.getElem?_cons_zero, Option.bind_some, Nat.reduceLeDiff, ne_eq, reduceCtorEq, not_false_eq_true, implies_true, Bool.not_false, Bool.false_eq_true, Option.map_some, List.set_cons_succ, List.set_cons_zero, List.getD_cons_succ, List.getD_cons_zero, Zau, Zbk, List.any_cons, List.any_nil, ↓reduceIte, Zbc, Zbd, Za5, Za4, Zac, Zaw, Zap, Zer, Zab, Zaa, Zcr, and_self, List.toList_toArray, Option.some.injEq, Ze5, kd_l, Zc5, Zc4, kd_r, Zcf, Zee, Zch, Zbn, Zc6, Zba, Zdg, Zcs, Zci, Zde, Zbx, Zbw, Zdx, Zbu, Op.operands, Ze2, List.foldl_nil, Zas, Zbh, Zbg, Zcz, Zeu, hlen, Zad, Zb6, Zb5, Zb4, Zc9, Zco, Zcq, List.take_succ_cons, List.take_zero, List.drop_succ_cons, List.drop_zero, Za8, Bool.or_self, Nat.zero_add, Nat.succ_ne_zero, Nat.le_refl, sz4, st27, hcv, hres, kd_h, Zca, Zd4, Zd5, Zex, Ze3, Zdk, Zh2, Zcb, Zcc, Zcd, List.all_cons, List.all_nil, Bool.and_self, plan70_1, a2, sz67, ag67, Zhn, Zhl, Zf0]
theorem c64 {x : ItemV} {r1 : List UInt8} (t1 : parP l = some (x, r1)) :
    wc 64 [.ptr (h.length + 2) 0, .ptr (h.length + 5) 0] (h ++ [.cells (m.cs lst), .cells [e0], .cells [rdC l], .cells hs, .cells [.ptr (h.length + 2) 0], .cells [.ptr h.length 0], mp]) =
      some (.val Zav, h ++ [.cells (({ m with ikey := BA x.key, ival := x.val, iver := x.ver, gone := x.gone } : Msg).cs lst), .cells [e0], .cells [rdC r1], .cells hs, .cells [.ptr (h.length + 2) 0], .cells [.ptr h.length 0], mp]) := by
  have a1 := r65_ok (h ++ [.cells (m.cs lst), .cells [e0], .cells [rdC l], .cells hs, .cells [.ptr (h.length + 2) 0], .cells [.ptr h.length 0], mp]) (h.length + 2) l (by simp [Zbp]) hl t1
  simp only [Msg.cs, Ze4, Zh8] at a1
  have hcv : ∀ i, wcv 64 i = [] := fun _ => rfl
  have hres : Try.f64.results.toList = [] := rfl
  rw [wc, Zbt rfl Try.func64 rfl]
  simp only [Zbi, List.length_cons, List.length_nil, Nat.reduceAdd, Nat.reduceSub, List.replicate, List.cons_append, List.nil_append, Nat.zero_add, Try.ntmps64]
  refine (Zf8 (l := plan64_0) (by exact plan64_0_eq)).trans ?_
  simp only [List.length_cons, List.length_nil, Nat.reduceAdd, List.cons_append, List.nil_append, List.getElem?_toArray, List.getElem?_cons_succ, List.getElem?_cons_zero, Option.bind_some, Nat.reduceLeDiff, ne_eq, reduceCtorEq, not_false_eq_true, implies_true, Bool.not_false, Bool.false_eq_true, Option.map_some, List.set_cons_succ, List.set_cons_zero, List.getD_cons_succ, List.getD_cons_zero, Zbo, Zbk, List.any_cons, List.any_nil, Zb3, ↓reduceIte, Zbc, Zbd, Za5, Za4, Zac, Zaw, Zap, Zer, Zab, Zaa, Zcr, and_self, List.toList_toArray, Option.some.injEq, Ze5, kd_l, Zc5, Zc4, kd_r, Zcf, Zee, Zch, Zbn, Zc6, Zba, Zdg, Zcs, Zci, Zde, Zbx, Zbw, Zdx, Zbu, Op.operands, Ze2, List.foldl_nil, Zas, Zbh, Zbg, Zcz, Zeu, hlen, Zad, Zb6, Zb5, Zb4, Zb1, Zb9, Zcq, List.take_succ_cons, List.take_zero, List.drop_succ_cons, List.drop_zero, Za8, Bool.or_self, Nat.zero_add, Nat.succ_ne_zero, Nat.le_refl, sz24, st27, hcv, hres, kd_h, Zca, Zd4, Zd5, Zex, Ze3, Zdk, Zh2, Zcb, Zcc, Zcd, List.all_cons, List.all_nil, Bool.and_self, plan64_0, a1, Msg.cs, sz67, ag67, Zhn, Zhl, Zf0]
theorem c66 {x : List UInt8} {r1 : List UInt8} (t1 : takeT l = some (x, r1)) :
    wc 66 [.ptr (h.length + 2) 0, .ptr (h.length + 5) 0] (h ++ [.cells (m.cs lst), .cells [e0], .cells [rdC l], .cells hs, .cells [.ptr (h.length + 2) 0], .cells [.ptr h.length 0], mp]) =
      some (.val Zav, h ++ [.cells (({ m with ikey := BA x } : Msg).cs lst), .cells [e0], .cells [rdC r1], .cells hs, .cells [.ptr (h.length + 2) 0], .cells [.ptr h.length 0], mp]) := by
  have a1 := r67_ok (h ++ [.cells (m.cs lst), .cells [e0], .cells [rdC l], .cells hs, .cells [.ptr (h.length + 2) 0], .cells [.ptr h.length 0], mp]) (h.length + 2) l (by simp [Zbp]) hl t1
  simp only [Msg.cs, Ze4] at a1
  have hcv : ∀ i, wcv 66 i = [] := fun _ => rfl
  have hres : Try.f66.results.toList = [] := rfl
  rw [wc, Zbt rfl Try.func66 rfl]
  simp only [Zbi, List.length_cons, List.length_nil, Nat.reduceAdd, Nat.reduceSub, List.replicate, List.cons_append, List.nil_append, Nat.zero_add, Try.ntmps66]
  refine (Zf8 (l := plan66_0) (by exact plan66_0_eq)).trans ?_
  simp only [List.length_cons, List.length_nil, Nat.reduceAdd, List.cons_append, List.nil_append, List.getElem?_toArray, List.getElem?_cons_succ, List.getElem?_cons_zero, Option.bind_some, Nat.reduceLeDiff, ne_eq, reduceCtorEq, not_false_eq_true, implies_true, Bool.not_false, Bool.false_eq_true, Option.map_some, List.set_cons_succ, List.set_cons_zero, List.getD_cons_succ, List.getD_cons_zero, Zau, Zbk, List.any_cons, List.any_nil, ↓reduceIte, Zbc, Zbd, Za5, Za4, Zac, Zaw, Zap, Zer, Zab, Zaa, Zcr, and_self, List.toList_toArray, Option.some.injEq, Ze5, kd_l, Zc5, Zc4, kd_r, Zcf, Zee, Zch, Zbn, Zc6, Zba, Zdg, Zcs, Zci, Zde, Zbx, Zbw, Zdx, Zbu, Op.operands, Ze2, List.foldl_nil, Zas, Zbh, Zbg, Zcz, Zeu, hlen, Zad, Zb6, Zb5, Zb4, Zc9, Zco, Zcq, List.take_succ_cons, List.take_zero, List.drop_succ_cons, List.drop_zero, Za8, Bool.or_self, Nat.add_zero, Nat.zero_add, Nat.succ_ne_zero, Nat.le_refl, sz9, sz24, st24, st27, hcv, hres, kd_h, Zca, Zd4, Zd5, Zex, Ze3, Zdk, Zh2, Zcb, Zcc, Zcd, List.all_cons, List.all_nil, Bool.and_self, plan66_0, a1, Msg.cs, sz67, ag67, Zhn, Zhl, Zf0]
theorem c71 {k : Nat} {r1 : List UInt8} (t1 : parN l = some (k, r1)) :
    wc 71 [.ptr (h.length + 2) 0, .ptr (h.length + 5) 0] (h ++ [.cells (m.cs lst), .cells [e0], .cells [rdC l], .cells hs, .cells [.ptr (h.length + 2) 0], .cells [.ptr h.length 0], mp]) =
      some (.val Zav, h ++ [.cells (({ m with code := k } : Msg).cs lst), .cells [e0], .cells [rdC r1], .cells hs, .cells [.ptr (h.length + 2) 0], .cells [.ptr h.length 0], mp]) := by
  have a1 := r61_ok (h ++ [.cells (m.cs lst), .cells [e0], .cells [rdC l], .cells hs, .cells [.ptr (h.length + 2) 0], .cells [.ptr h.length 0], mp]) (h.length + 2) l (by simp [Zbp]) hl t1
  simp only [Msg.cs, Ze4] at a1
  have hcv : ∀ i, wcv 71 i = [] := fun _ => rfl
  have hres : Try.f71.results.toList = [] := rfl
  rw [wc, Zbt rfl Try.func71 rfl]
  simp only [Zbi, List.length_cons, List.length_nil, Nat.reduceAdd, Nat.reduceSub, List.replicate, List.cons_append, List.nil_append, Nat.zero_add, Try.ntmps71]
  refine (Zf8 (l := plan71_0) (by exact plan71_0_eq)).trans ?_
  simp only [List.length_cons, List.length_nil, Nat.reduceAdd, List.cons_append, List.nil_append, List.getElem?_toArray, List.getElem?_cons_succ, List.getElem?_cons_zero, Option.bind_some, ne_eq, reduceCtorEq, not_false_eq_true, implies_true, Bool.not_false, Bool.false_eq_true, Option.map_some, List.set_cons_succ, List.set_cons_zero, List.getD_cons_succ, List.getD_cons_zero, Zau, Zbk, List.any_cons, List.any_nil, ↓reduceIte, Zbc, Zbd, Za5, Za4, Zac, Zaw, Zap, Zer, Zab, Zaa, Zcr, and_self, List.toList_toArray, Option.some.injEq, Ze5, kd_l, Zc5, Zc4, kd_r, Zcf, Zee, Zch, Zbn, Zc6, Zba, Zdg, Zcs, Zci, Zde, Zbx, Zbw, Zdx, Zbu, Op.operands, Ze2, List.foldl_nil, List.append_nil, Zas, Zbh, Zbg, Zcz, Zeu, hlen, Zad, Zb6, Zb5, Zb4, Zc9, Zco, Zcq, List.take_succ_cons, List.take_zero, List.drop_succ_cons, List.drop_zero, Za8, Bool.or_self, Nat.zero_add, Nat.succ_ne_zero, Nat.le_refl, sz25, st27, hcv, hres, kd_h, Zca, Zd4, Zd5, Zex, Ze3, Zdk, Zh2, Zcb, Zcc, Zcd, List.all_cons, List.all_nil, Bool.and_self, plan71_0, a1, Msg.cs, sz67, ag67, Zhn, Zhl, Zf0]
theorem c72n {k : Nat} {r1 : List UInt8} (t1 : parN l = some (k, r1)) (hk : k ≠ 0) :
    wc 72 [.ptr (h.length + 2) 0, .ptr (h.length + 5) 0] (h ++ [.cells (m.cs lst), .cells [e0], .cells [rdC l], .cells hs, .cells [.ptr (h.length + 2) 0], .cells [.ptr h.length 0], mp]) =
      some (.val Zav, h ++ [.cells (({ m with code := k } : Msg).cs lst), .cells [e0], .cells [rdC r1], .cells hs, .cells [.ptr (h.length + 2) 0], .cells [.ptr h.length 0], mp]) := by
  have a1 := r61_ok (h ++ [.cells (m.cs lst), .cells [e0], .cells [rdC l], .cells hs, .cells [.ptr (h.length + 2) 0], .cells [.ptr h.length 0], mp]) (h.length + 2) l (by simp [Zbp]) hl t1
  simp only [Msg.cs, Ze4] at a1
  have ek : ((k : Int) == 0) = false := by simp; omega
  have hcv : ∀ i, wcv 72 i = [] := fun _ => rfl
  have hres : Try.f72.results.toList = [] := rfl
  rw [wc, Zbt rfl Try.func72 rfl]
  simp only [Zbi, List.length_cons, List.length_nil, Nat.reduceAdd, Nat.reduceSub, List.replicate, List.cons_append, List.nil_append, Zaj, Nat.zero_add, Try.ntmps72]
  refine (Zf8 (l := plan72_0) (by exact plan72_0_eq)).trans ?_
  simp only [List.length_cons, List.length_nil, Nat.reduceAdd, List.cons_append, List.nil_append, Zaj, Zbz, Za7, Zar, Za3, Zae, Zao, Za9, List.getElem?_toArray, List.getElem?_cons_succ, List.getElem?_cons_zero, Option.bind_some, ne_eq, reduceCtorEq, not_false_eq_true, implies_true, Bool.not_false, Bool.false_eq_true, Option.map_some, List.set_cons_succ, List.set_cons_zero, List.getD_cons_succ, List.getD_cons_zero, Zau, Zbk, List.any_cons, List.any_nil, Zb3, ↓reduceIte, Za6, Zbc, Zbd, Za5, Za4, Zac, Zai, Zaw, Zap, Zan, Zb8, Zay, Zer, Zab, Zaa, Zcr, and_self, List.toList_toArray, Option.some.injEq, Ze5, kd_l, Zc5, Zc4, kd_r, Zcf, Zee, Zch, Zbn, Zc6, Zba, Zdg, Zcs, Zci, Zde, Zbx, Zbw, Zdx, Zbu, Op.operands, Ze2, List.foldl_nil, List.append_nil, Zas, Zbh, Zbg, Zcz, Zeu, hlen, Zad, Zb6, Zb5, Zb4, Zc9, Zco, Zbs, Zcq, List.take_succ_cons, List.take_zero, List.drop_succ_cons, List.drop_zero, Za8, Zag, Bool.or_self, Nat.zero_add, Nat.succ_ne_zero, Nat.le_refl, sz25, ag25, st27, Za1 (hcv _), hcv, hres, kd_h, Zca, Zd4, Zd5, Zex, Ze3, Zdk, Zh2, Zcb, Zcc, Zcd, List.all_cons, List.all_nil, Bool.and_self, back, taken, Zbj, Zdo, plan72_0, ek, a1, Msg.cs, sz67, ag67, Zhn, Zhl, own0_ptr, Zf0]
theorem c72z {x : ItemV} {r1 r2 : List UInt8} (t1 : parN l = some (0, r1)) (t2 : parP r1 = some (x, r2)) :
    wc 72 [.ptr (h.length + 2) 0, .ptr (h.length + 5) 0] (h ++ [.cells (m.cs lst), .cells [e0], .cells [rdC l], .cells hs, .cells [.ptr (h.length + 2) 0], .cells [.ptr h.length 0], mp]) =
      some (.val Zav, h ++ [.cells (({ m with code := 0, ikey := BA x.key, ival := x.val, iver := x.ver, gone := x.gone } : Msg).cs lst), .cells [e0], .cells [rdC r2], .cells hs, .cells [.ptr (h.length + 2) 0], .cells [.ptr h.length 0], mp]) := by
  have b1 := Zfw t1
  have a1 := r61_ok (h ++ [.cells (m.cs lst), .cells [e0], .cells [rdC l], .cells hs, .cells [.ptr (h.length + 2) 0], .cells [.ptr h.length 0], mp]) (h.length + 2) l (by simp [Zbp]) hl t1
  have a2 := r65_ok (h ++ [.cells (({ m with code := 0 } : Msg).cs lst), .cells [e0], .cells [rdC r1], .cells hs, .cells [.ptr (h.length + 2) 0], .cells [.ptr h.length 0], mp]) (h.length + 2) r1 (by simp [Zbp]) (by omega) t2
  simp only [Msg.cs, Ze4, Zh8] at a1 a2
  have ek : (((0 : Nat) : Int) == 0) = true := by decide
  have ek' : ((0 : Int) == 0) = true := by decide
  have hcv : ∀ i, wcv 72 i = [] := fun _ => rfl
  have hres : Try.f72.results.toList = [] := rfl
  rw [wc, Zbt rfl Try.func72 rfl]
  simp only [Zbi, List.length_cons, List.length_nil, Nat.reduceAdd, Nat.reduceSub, List.replicate, List.cons_append, List.nil_append, Zaj, Nat.zero_add, Try.ntmps72]
  refine (Zf8 (l := plan72_0) (by exact plan72_0_eq)).trans ?_
  simp only [List.length_cons, List.length_nil, Nat.reduceAdd, List.cons_append, List.nil_append, Zaj, Za7, Zal, Za3, Zae, Zao, Za9, List.getElem?_toArray, List.getElem?_cons_succ, List.getElem?_cons_zero, Option.bind_some, ne_eq, reduceCtorEq, not_false_eq_true, implies_true, Bool.not_false, Bool.false_eq_true, Option.map_some, List.set_cons_succ, List.set_cons_zero, List.getD_cons_succ, List.getD_cons_zero, Zau, Zbk, List.any_cons, List.any_nil, Zb3, ↓reduceIte, Za6, Zbc, Zbd, Za5, Za4, Zac, Zai, Zaw, Zap, Zan, Zb8, Zay, and_self, List.toList_toArray, Option.some.injEq, Ze5, kd_l, Zc5, Zc4, kd_r, Zcf, Zee, Zch, Zbn, Zc6, Zba, Zdg, Zcs, Zci, Zde, Zbx, Zbw, Zdx, Zbu, Op.operands, Ze2, List.foldl_nil, List.append_nil, Zas, Zbh, Zbg, Zcz, Zeu, Zad, Zb6, Zb5, Zb4, Zc9, Zco, Zbs, Zcq, List.take_succ_cons, List.take_zero, List.drop_succ_cons, List.drop_zero, Za8, Zag, Bool.or_self, Nat.zero_add, Nat.succ_ne_zero, Nat.le_refl, sz25, ag25, st27, Za1 (hcv _), hcv, kd_h, Zca, Zd4, Zd5, Zex, Ze3, Zdk, Zh2, Zcb, Zcc, Zcd, List.all_cons, List.all_nil, Bool.and_self, back, taken, Zbj, Zdo, beq_self_eq_true, plan72_0, Int.ofNat_zero, a1, Msg.cs, sz67, ag67, Zhn, Zhl, own0_ptr]
  refine (Zf8 (l := plan72_2) (by exact plan72_2_eq)).trans ?_
  simp only [List.length_cons, List.length_nil, Nat.reduceAdd, List.cons_append, List.nil_append, List.getElem?_toArray, List.getElem?_cons_succ, List.getElem?_cons_zero, Option.bind_some, Nat.reduceLeDiff, ne_eq, reduceCtorEq, not_false_eq_true, implies_true, Bool.not_false, Bool.false_eq_true, Option.map_some, List.set_cons_succ, List.set_cons_zero, List.getD_cons_succ, List.getD_cons_zero, Zbo, Zbk, List.any_cons, List.any_nil, Zb3, ↓reduceIte, Zbc, Zbd, Za5, Za4, Zac, Zaw, Zap, Zer, Zab, Zaa, Zcr, and_self, List.toList_toArray, Option.some.injEq, Ze5, kd_l, Zc5, Zc4, kd_r, Zcf, Zee, Zch, Zbn, Zc6, Zba, Zdg, Zcs, Zci, Zde, Zbx, Zbw, Zdx, Zbu, Op.operands, Ze2, List.foldl_nil, Zas, Zbh, Zbg, Zcz, Zeu, hlen, Zad, Zb6, Zb5, Zb4, Zb1, Zb9, Zcq, List.take_succ_cons, List.take_zero, List.drop_succ_cons, List.drop_zero, Za8, Bool.or_self, Nat.zero_add, Nat.succ_ne_zero, Nat.le_refl, sz24, st27, hcv, hres, kd_h, Zca, Zd4, Zd5, Zex, Ze3, Zdk, Zh2, Zcb, Zcc, Zcd, List.all_cons, List.all_nil, Bool.and_self, plan72_2, a2, sz67, ag67, Zhn, Zhl, Zf0]
end
section
variable (h : List O) (m : Msg) (e0 : D) (l : List UInt8) (hs : List D) (mp : O) (hl : l.length ≤ 100000)
  include hl
theorem c68 {k : Nat} {ns : List Nat} {r1 r2 : List UInt8} (t1 : parN l = some (k, r1)) (t2 : parL r1 = some (ns, r2)) :
    wc 68 [.ptr (h.length + 2) 0, .ptr (h.length + 5) 0] (h ++ [.cells (m.cs (.osl false true 0 [])), .cells [e0], .cells [rdC l], .cells hs, .cells [.ptr (h.length + 2) 0], .cells [.ptr h.length 0], mp]) =
      some (.val Zav, h ++ [.cells (({ m with pred := IntKind.i64.wrap ((k : Int) - 1), list := Zip ns } : Msg).cs (slN ns)), .cells [e0], .cells [rdC r2], .cells hs, .cells [.ptr (h.length + 2) 0], .cells [.ptr h.length 0], mp]) := by
  have b1 := Zfw t1
  have a1 := r61_ok (h ++ [.cells (m.cs (.osl false true 0 [])), .cells [e0], .cells [rdC l], .cells hs, .cells [.ptr (h.length + 2) 0], .cells [.ptr h.length 0], mp]) (h.length + 2) l (by simp [Zbp]) hl t1
  have a2 := r69_ok (h ++ [.cells (({ m with pred := IntKind.i64.wrap ((k : Int) - 1) } : Msg).cs (.osl false true 0 [])), .cells [e0], .cells [rdC r1], .cells hs, .cells [.ptr (h.length + 2) 0], .cells [.ptr h.length 0], mp]) (h.length + 2) r1 (by simp [Zbp]) (by omega) t2
  simp only [Msg.cs, Ze4] at a1 a2
  cases ns with
  | nil =>
    simp only [slN] at a2
    have hcv : ∀ i, wcv 68 i = [] := fun _ => rfl
    have hres : Try.f68.results.toList = [] := rfl
    rw [wc, Zbt rfl Try.func68 rfl]
    simp only [Zbi, List.length_cons, List.length_nil, Nat.reduceAdd, Nat.reduceSub, List.replicate, List.cons_append, List.nil_append, Zaj, Nat.zero_add, Try.ntmps68]
    refine (Zf8 (l := plan68_0) (by exact plan68_0_eq)).trans ?_
    simp only [List.length_cons, List.length_nil, Nat.reduceAdd, List.cons_append, List.nil_append, Za3, List.getElem?_toArray, List.getElem?_cons_succ, List.getElem?_cons_zero, Option.bind_some, Nat.reduceLeDiff, ne_eq, reduceCtorEq, not_false_eq_true, implies_true, Bool.not_false, Bool.false_eq_true, Option.map_some, List.set_cons_succ, List.set_cons_zero, List.getD_cons_succ, List.getD_cons_zero, Zau, Zbk, List.any_cons, List.any_nil, ↓reduceIte, Za6, Zbc, Zbd, Za5, Za4, Zac, Zai, Zaw, Zap, Zan, Zgn, Zft, and_self, List.toList_toArray, Option.some.injEq, Ze5, kd_l, Zc5, Zc4, kd_r, Zcf, Zee, Zch, Zbn, Zc6, Zba, Zdg, Zcs, Zci, Zde, Zbx, Zbw, Zdc, Zdx, Zg1, Zbu, Op.operands, Ze2, List.foldl_nil, Zas, Zbh, Zbg, Zcz, Zeu, Zad, Zb6, Zb5, Zb4, Zc9, Zco, Zcq, List.take_succ_cons, List.take_zero, List.drop_succ_cons, List.drop_zero, Za8, Bool.or_self, Nat.zero_add, Nat.succ_ne_zero, Nat.le_refl, sz3, st27, hcv, kd_h, Zca, Zd4, Zd5, Zex, Ze3, Zdk, Zh2, Zcb, Zcc, Zcd, List.all_cons, List.all_nil, Bool.and_self, plan68_0, a1, Msg.cs, sz67, ag67, Zhn, Zhl, slN]
    refine (Zf8 (l := plan68_1) (by exact plan68_1_eq)).trans ?_
    simp only [List.length_cons, List.length_nil, Nat.reduceAdd, List.cons_append, List.nil_append, List.getElem?_toArray, List.getElem?_cons_succ, List.getElem?_cons_zero, Option.bind_some, Nat.reduceLeDiff, ne_eq, reduceCtorEq, not_false_eq_true, implies_true, Bool.not_false, Bool.false_eq_true, Option.map_some, List.set_cons_succ, List.set_cons_zero, List.getD_cons_succ, List.getD_cons_zero, Zdj, Zbk, List.any_cons, List.any_nil, ↓reduceIte, Zbc, Zbd, Za5, Za4, Zac, Zaw, Zap, Zer, Zab, Zaa, Zcr, and_self, List.toList_toArray, Option.some.injEq, Ze5, kd_l, Zc5, Zc4, kd_r, Zcf, Zee, Zch, Zbn, Zc6, Zba, Zdg, Zcs, Zci, Zde, Zbx, Zbw, Zdx, Zbu, Op.operands, Ze2, List.foldl_nil, Zas, Zbh, Zbg, Zcz, Zeu, hlen, Zad, Zb6, Zb5, Zb4, Zd3, Zcm, Zcq, List.take_succ_cons, List.take_zero, List.drop_succ_cons, List.drop_zero, Za8, Bool.or_self, Nat.zero_add, Nat.succ_ne_zero, Nat.le_refl, sz22, st27, hcv, hres, kd_h, Zca, Zd4, Zd5, Zex, Ze3, Zdk, Zh2, Zcb, Zcc, Zcd, List.all_cons, List.all_nil, Bool.and_self, plan68_1, a2, sz67, ag67, Zhn, Zhl, Zf0]
  | cons n ns =>
    simp only [slN] at a2
    have hcv : ∀ i, wcv 68 i = [] := fun _ => rfl
    have hres : Try.f68.results.toList = [] := rfl
    rw [wc, Zbt rfl Try.func68 rfl]
    simp only [Zbi, List.length_cons, List.length_nil, Nat.reduceAdd, Nat.reduceSub, List.replicate, List.cons_append, List.nil_append, Zaj, Nat.zero_add, Try.ntmps68]
    refine (Zf8 (l := plan68_0) (by exact plan68_0_eq)).trans ?_
    simp only [List.length_cons, List.length_nil, Nat.reduceAdd, List.cons_append, List.nil_append, Za3, List.getElem?_toArray, List.getElem?_cons_succ, List.getElem?_cons_zero, Option.bind_some, Nat.reduceLeDiff, ne_eq, reduceCtorEq, not_false_eq_true, implies_true, Bool.not_false, Bool.false_eq_true, Option.map_some, List.set_cons_succ, List.set_cons_zero, List.getD_cons_succ, List.getD_cons_zero, Zau, Zbk, List.any_cons, List.any_nil, ↓reduceIte, Za6, Zbc, Zbd, Za5, Za4, Zac, Zai, Zaw, Zap, Zan, Zgn, Zft, and_self, List.toList_toArray, Option.some.injEq, Ze5, kd_l, Zc5, Zc4, kd_r, Zcf, Zee, Zch, Zbn, Zc6, Zba, Zdg, Zcs, Zci, Zde, Zbx, Zbw, Zdc, Zdx, Zg1, Zbu, Op.operands, Ze2, List.foldl_nil, Zas, Zbh, Zbg, Zcz, Zeu, Zad, Zb6, Zb5, Zb4, Zc9, Zco, Zcq, List.take_succ_cons, List.take_zero, List.drop_succ_cons, List.drop_zero, Za8, Bool.or_self, Nat.zero_add, Nat.succ_ne_zero, Nat.le_refl, sz3, st27, hcv, kd_h, Zca, Zd4, Zd5, Zex, Ze3, Zdk, Zh2, Zcb, Zcc, Zcd, List.all_cons, List.all_nil, Bool.and_self, plan68_0, a1, Msg.cs, sz67, ag67, Zhn, Zhl, slN]
    refine (Zf8 (l := plan68_1) (by exact plan68_1_eq)).trans ?_
    simp only [List.length_cons, List.length_nil, Nat.reduceAdd, List.cons_append, List.nil_append, List.getElem?_toArray, List.getElem?_cons_succ, List.getElem?_cons_zero, Option.bind_some, Nat.reduceLeDiff, ne_eq, reduceCtorEq, not_false_eq_true, implies_true, Bool.not_false, Bool.false_eq_true, Option.map_some, List.set_cons_succ, List.set_cons_zero, List.getD_cons_succ, List.getD_cons_zero, Zbk, List.any_cons, List.any_nil, ↓reduceIte, Zbc, Zbd, Za5, Za4, Zac, Zaw, Zap, Zer, Zab, Zaa, Zcr, and_self, List.toList_toArray, Option.some.injEq, Ze5, kd_l, Zc5, Zc4, kd_r, Zcf, Zee, Zch, Zbn, Zc6, Zba, Zdg, Zcs, Zci, Zde, Zbx, Zbw, Zdx, Zbu, Op.operands, Ze2, List.foldl_nil, Zas, Zbh, Zbg, Zcz, Zeu, hlen, Zad, Zb6, Zb5, Zb4, Zd3, Zcm, Zcq, List.take_succ_cons, List.take_zero, List.drop_succ_cons, List.drop_zero, Za8, Bool.or_self, Nat.zero_add, Nat.succ_ne_zero, Nat.le_refl, sz22, st27, hcv, hres, kd_h, Zca, Zd4, Zd5, Zex, Ze3, Zdk, Zh2, Zcb, Zcc, Zcd, List.all_cons, List.all_nil, Bool.and_self, Zdb, Zcg, Zd1, Zc1, plan68_1, a2, sz67, ag67, Zhn, Zhl, Zf0]
end
end Go.Abs

namespace Go.Abs
open Go Go.Proofs
set_option maxRecDepth 10000
set_option maxHeartbeats 8000000

theorem takeNs_len : ∀ (k : Nat) (l : List UInt8) (ns : List Nat) (r : List UInt8), Zic k l = .ok (ns, r) → ns.length = k ∧ r.length ≤ l.length := by
  intro k
  induction k with
  | zero => intro l ns r h; simp [Zic] at h; obtain ⟨rfl, rfl⟩ := h; simp
  | succ k ih =>
    intro l ns r h
    simp only [Zic] at h
    split at h
    · cases h
    · cases h
    · rename_i n rest ht
      split at h
      · rename_i q r' hq
        simp at h
        obtain ⟨rfl, rfl⟩ := h
        have := ih _ _ _ hq
        have h2 := takeB_rest ht
        simp; omega
      · cases h
theorem parL_len {l r : List UInt8} {ns : List Nat} (h : parL l = some (ns, r)) : ns.length ≤ 255 ∧ r.length ≤ l.length := by
  unfold parL at h
  split at h
  · rename_i q hq
    cases h
    cases l with
    | nil => simp [takeL] at hq
    | cons m ys =>
      simp only [takeL] at hq
      have := takeNs_len _ _ _ _ hq
      have hm := m.toNat_lt
      simp; omega
  · cases h
theorem parB_len {l r : List UInt8} {b : Bool} (h : parB l = some (b, r)) : r.length ≤ l.length := by
  unfold parB at h
  split at h
  · rename_i n q hq
    split at h
    · cases h; exact Zfw hq
    · cases h
  · cases h
theorem parP_len {l r : List UInt8} {x : ItemV} (h : parP l = some (x, r)) : r.length ≤ l.length := by
  unfold parP at h
  split at h
  · rename_i s r1 q1
    split at h
    · rename_i v r2 q2
      split at h
      · rename_i n r3 q3
        split at h
        · rename_i g r4 q4
          cases h
          have := takeT_len q1; have := Zfw q2; have := Zfw q3; have := parB_len q4
          omega
        · cases h
      · cases h
    · cases h
  · cases h

theorem intsN_inj {a b : List Nat} (h : Zip a = Zip b) : a = b := by
  induction a generalizing b with
  | nil => cases b with
    | nil => rfl
    | cons y b => simp [Zip] at h
  | cons x a ih => cases b with
    | nil => simp [Zip] at h
    | cons y b =>
      simp only [Zip, List.map_cons, List.cons.injEq] at h ih ⊢
      exact ⟨by omega, ih h.2⟩
theorem w17_ok (a : D) (xs l4 l5 : List UInt8) (n0 n1 n2 n3 : Nat) (m1 : Msg) (ns : List Nat) (ha : Rd a (byE xs)) (hx : xs.length ≤ 100000) (hh : Heads xs l4 n0 n1 n2 n3) (h13 : n0 < 13)
    (hf : fillM (Zgd n0 n1 n2 n3) l4 = some (m1, l5)) (hm : m1.list = Zip ns) (h : List O) :
    wc 17 [a] h = some (.val (if l5 = [] ∧ m1.right = true then .tup [.agg (m1.cs (lrD ns)), .int .i64 0] else .tup [.agg (msg0.cs (.osl false true 0 [])), .int .i64 12]), h) := by
  by_cases hk : n0 ≠ 4 ∧ n0 ≠ 5 ∧ n0 ≠ 6 ∧ n0 ≠ 7 ∧ n0 ≠ 10 ∧ n0 ≠ 11 ∧ n0 ≠ 12
  · have hw := w17_none a xs l4 n0 n1 n2 n3 ha hx hh h13 hk h
    obtain ⟨k4, k5, k6, k7, k10, k11, k12⟩ := hk
    simp only [fillM, show (Zgd n0 n1 n2 n3).kind = n0 from rfl] at hf
    rw [if_neg (by omega), if_neg (by omega), if_neg (by omega), if_neg (by omega), if_neg (by omega), if_neg (by omega), if_neg (by omega)] at hf
    cases hf
    have : ns = [] := by cases ns with
      | nil => rfl
      | cons n ns => simp [Zip, Zgd] at hm
    subst this
    exact hw
  have h31 := clone31 ha (by omega)
  have b58 := build58 (d := .osl true false 1 (byE xs)) rfl rfl
  have h32 := w32 (h.length + 2)
  have hx4 : l4.length ≤ 100000 := by have := hh.len; omega
  have hcv : ∀ i, wcv 17 i = [] := fun _ => rfl
  have hres : Try.f17.results.toList = [ResultVar.cell 2 27, ResultVar.cell 3 25] := rfl
  rw [wc, Zbt rfl Try.func17 rfl]
  simp only [Zbi, List.length_cons, List.length_nil, Nat.reduceAdd, Nat.reduceSub, List.replicate, List.cons_append, List.nil_append, Zaj, Zc3, Za3, Zae, Zao, Zbe, Zbf, Za9, Zce, Zbq, ne_eq, reduceCtorEq, not_false_eq_true, implies_true, Bool.false_eq_true, Option.map_some, List.set_cons_succ, List.set_cons_zero, List.getD_cons_succ, List.getD_cons_zero, Zbo, Zbk, List.any_cons, List.any_nil, Bool.or_false, ↓reduceIte, Za0, Zdz, Zd2, Zdv, Zec, Za4, Zaf, Zac, Zaw, Zap, Ze7, Zd9, List.append_nil, hlen, Zi9, Zb1, Zc9, Zb9, Zco, List.map_cons, List.map_nil, Bool.or_self, Nat.zero_add, Za1 (hcv _), Try.ntmps17, ha.ownD, zo27, zo25, exO_defer, h31, b58, zo59, List.zip_cons_cons, List.zip_nil_right, h32, List.any_toArray, Zcp, taken, Zbj, Zdo, Nat.reduceBEq, Zdb, Zcg, Zd1, Zfn, Zc1]
  rw [kx_range rfl rfl rfl]
  simp only [List.length_cons, List.length_nil, Nat.reduceAdd, List.cons_append, List.nil_append, hlen, List.map_cons, List.map_nil, Nat.zero_add, List.append_assoc, shrT_undef, shrT_ptr, shrT_func, shrT_rd ha, leftT_agg, Zh1, shrT_hdr, shrT_agg, shr0_hdr]
  refine kRng_of (P := Try.prog) (pr := wpr) (cv := wcv) (w60 h _ _ _ xs l4 n0 n1 n2 n3 _ _ _ _ hx hh ?_) ?_
  · intro l hs i n hi hl4
    refine (call_round (hgetn.trans rfl) rfl).trans ?_
    simp only [Zaj, Za3, Zae, Zao, Za9, ne_eq, reduceCtorEq, not_false_eq_true, implies_true, Option.map_some, List.set_cons_succ, List.set_cons_zero, List.getD_cons_succ, List.getD_cons_zero, Zau, Za0, Za4, List.foldl_nil, Za1 (hcv _), List.zip_cons_cons, List.zip_nil_right, List.foldl_cons]
    rw [kBody_nrm (hgetn.trans rfl)]
    have hi1 : i + 1 ≤ hs.length := by omega
    simp only [List.length_cons, List.length_nil, Zc3, Zc8, Zae, Zao, Za9, Zce, Option.bind_some, ne_eq, reduceCtorEq, not_false_eq_true, implies_true, Option.map_some, List.set_cons_succ, List.set_cons_zero, List.getD_cons_succ, List.getD_cons_zero, Zau, Zbk, ↓reduceIte, Za2, Zbc, Zbl, Za4, Zaf, Zac, and_self, Zbh, Zbg, Zcz, Ze4, Zad, Zb4, Zc9, Zco, Zcq, Nat.zero_add, sz3, Za1 (hcv _), ix59 hi, hi1, put_set (show i < hs.length by omega)]
    rw [rout_nrm (hgetn.trans rfl)]
    simp only [List.set_cons_succ, List.set_cons_zero, Ze4]
  · rw [kRng_nrm' (n := h.length + 5) (by simp) (hgetn.trans rfl) (by simp)]
    simp only [Zaj, Za3, Zc8, Zao, ne_eq, reduceCtorEq, not_false_eq_true, implies_true, List.set_cons_succ, List.set_cons_zero, Zbl, Zai, Zan, Ze4, List.map_cons, List.map_nil, Za1 (hcv _)]
    rw [gc_tail (n := h.length + 5) (h := h) (l := [_, _, _, _, _]) rfl (.tup [] (by simp)) ?_]
    rotate_left
    · exact ⟨.inl rfl, .inl rfl, .inr (.cells _ (by simp [rdC_fit])), .inr (.cells _ (by simp [Zbm])), .inl rfl, trivial⟩
    simp only [List.length_cons, List.length_nil, Nat.reduceAdd, Zao, Zbe, Zbf, Za9, List.getElem?_cons_zero, Option.bind_some, Nat.reduceLeDiff, ne_eq, reduceCtorEq, not_false_eq_true, implies_true, Bool.false_eq_true, Option.map_some, List.set_cons_succ, List.set_cons_zero, List.getD_cons_succ, List.getD_cons_zero, Zau, Zbk, Zb3, ↓reduceIte, Za6, Za4, Zaf, Zac, Zai, Zaw, Zap, Zan, Zc2, Zbv, Zbh, Zbg, Zcz, Zad, Zbs, List.take_succ_cons, List.take_zero, List.map_cons, List.map_nil, Zag, Nat.zero_add, sz3, ag3, kep_undef, kep_ptr, kep_func, kep_rd ha, kep_hdr, kep_agg, kep0_hdr, ix59_0]
    have h33 := w33 true
    have e13 : decide ((n0 : Int) < 13) = true := by simp; omega
    have wk : IntKind.u8.wrap (n0 : Int) = (n0 : Int) := by rw [IntKind.wrap_u8]; omega
    have h34 := w34 h.length (h ++ [.cells ((Zgd n0 n1 n2 n3).cs (.osl false true 0 [])), .cells [.e (.int .i64 0)], .cells [rdC l4], .cells [.int .i64 (n0 : Int), .int .i64 (n1 : Int), .int .i64 (n2 : Int), .int .i64 (n3 : Int)], .cells [.ptr (h.length + 2) 0]])
    have b27 := @build27 n0 n1 n2 n3
    simp only [Msg.cs, Zgd, List.append_assoc, List.cons_append, List.nil_append, hlen, List.length_cons, List.length_nil, Nat.add_assoc, Nat.reduceAdd] at h34
    simp only [List.length_cons, List.length_nil, Nat.reduceAdd, List.nil_append, Zaj, Za3, Zae, Zao, Za9, Zce, Zbq, List.getElem?_cons_succ, List.getElem?_cons_zero, Option.bind_some, Nat.reduceLeDiff, ne_eq, reduceCtorEq, not_false_eq_true, implies_true, Bool.false_eq_true, Option.map_some, List.set_cons_succ, List.set_cons_zero, List.getD_cons_succ, List.getD_cons_zero, Zau, Zbo, Zbk, List.any_cons, List.any_nil, Zb3, Zds, ↓reduceIte, Zck, Zdv, Zbc, Zbl, Za4, Zaf, Zac, Zai, Zaw, Zap, Zan, and_self, List.append_nil, Zas, Zbh, Zbg, Zcz, Zeu, Zad, Zb4, Zb1, Zb9, Zbs, Zcq, List.take_zero, List.drop_succ_cons, List.drop_zero, List.map_cons, List.map_nil, Zag, Bool.or_self, Nat.zero_add, Nat.le_refl, sz3, sz27, ag3, Za1 (hcv _), e13, h33, ix59_0, ix59_1, ix59_2, ix59_3, Zey Try.underlying3 Try.underlying5, wk, b27, List.zip_cons_cons, List.zip_nil_right]
    refine (Zf8 (l := Zgx) (by exact plan17_10_eq)).trans ?_
    by_cases k4 : n0 = 4
    · skip
      have g4 : ((n0 : Int) == 4) = true := by simp; omega
      simp only [fillM, show (Zgd n0 n1 n2 n3).kind = n0 from rfl] at hf
      rw [if_pos (by omega)] at hf
      split at hf
      rotate_left
      · cases hf
      rename_i kk r1 t1
      split at hf
      rotate_left
      · cases hf
      rename_i bb r2 t2
      cases hf
      have b1 := Zfw t1; have b2 := parB_len t2
      have : ns = [] := by cases ns with
        | nil => rfl
        | cons n ns => simp [Zip, Zgd] at hm
      subst this
      have hc := c62 h (Zgd n0 n1 n2 n3) (.osl false true 0 []) (.e (.int .i64 0)) l4 [.int .i64 (n0 : Int), .int .i64 (n1 : Int), .int .i64 (n2 : Int), .int .i64 (n3 : Int)] (.map (Zh5 (h.length + 5))) hx4 t1 t2
      simp only [Msg.cs, Zgd, Zh5] at hc
      simp only [List.length_cons, List.length_nil, Nat.reduceAdd, Zaj, Za3, Zao, Za9, St.put, List.getElem?_toArray, List.getElem?_cons_succ, List.getElem?_cons_zero, Option.bind_some, Nat.reduceLeDiff, ne_eq, reduceCtorEq, not_false_eq_true, implies_true, Bool.not_false, Bool.true_eq_false, Bool.false_eq_true, Option.map_some, List.set_cons_succ, List.set_cons_zero, List.getD_cons_succ, List.getD_cons_zero, Zau, Zef, Zbk, Zda, Zfu, List.any_cons, List.any_nil, ↓reduceIte, Za2, Za0, Za6, Za5, Za4, Zac, Zai, Zaw, Zap, Zdt, false_imp_iff, and_self, List.toList_toArray, Ze5, kd_l, Zc5, Zc4, kd_r, Zcf, Zbn, Zba, Zcs, Zci, Zde, Zbx, Zbw, Zbu, Zeb, Op.operands, Zg3, Zfp, Ze2, List.foldl_nil, Zas, Zbg, hgetn, Zad, Zb6, Zb5, Za8, Bool.or_self, Nat.add_zero, Nat.zero_add, Nat.succ_ne_zero, sz5, ag5, st27, Za1 (hcv _), hcv, kd_h, Zca, Zd4, Zd5, Zex, Ze3, Zdk, Zcb, Zcc, Zcd, Zfc, Zen, Zff, List.all_cons, List.all_nil, Bool.and_self, Zgx, h34, Zew, mp65, key5, Zfq, Zh5, Zhd, g4, zo64, show Nat.testBit 7 0 = true by decide, show Nat.testBit 15 2 = true by decide, show Nat.testBit 15 3 = true by decide]
      simp only [List.cons_append, List.nil_append, Za7, Zal, Za3, Zae, Zao, Za9, Zbq, ne_eq, reduceCtorEq, not_false_eq_true, implies_true, Bool.not_false, Option.map_some, List.set_cons_succ, List.set_cons_zero, List.getD_cons_succ, List.getD_cons_zero, Zbk, Zda, ↓reduceIte, Za2, Za4, Zaw, Zap, Bool.and_true, Za1 (hcv _), Zgl Try.underlying64, Zcu, ko_val, Zio, Zgi, Zfv, hc, ↓stop13]
      exact w17_end _ _ [] l5 h _ _ rfl hm (by omega) (by first | omega | simp) rfl rfl rfl rfl
    by_cases k5 : n0 = 5
    · skip
      have g4 : ((n0 : Int) == 4) = false := by simp; omega
      have g5 : ((n0 : Int) == 5) = true := by simp; omega
      simp only [fillM, show (Zgd n0 n1 n2 n3).kind = n0 from rfl] at hf
      rw [if_neg (by omega)] at hf; rw [if_pos (by omega)] at hf
      split at hf
      rotate_left
      · cases hf
      rename_i x r1 t1
      cases hf
      have b1 := parP_len t1
      have : ns = [] := by cases ns with
        | nil => rfl
        | cons n ns => simp [Zip, Zgd] at hm
      subst this
      have hc := c64 h (Zgd n0 n1 n2 n3) (.osl false true 0 []) (.e (.int .i64 0)) l4 [.int .i64 (n0 : Int), .int .i64 (n1 : Int), .int .i64 (n2 : Int), .int .i64 (n3 : Int)] (.map (Zh5 (h.length + 5))) hx4 t1
      simp only [Msg.cs, Zgd, Zh5] at hc
      simp only [List.length_cons, List.length_nil, Nat.reduceAdd, Zaj, Za3, Zao, Za9, St.put, List.getElem?_toArray, List.getElem?_cons_succ, List.getElem?_cons_zero, Option.bind_some, Nat.reduceLeDiff, ne_eq, reduceCtorEq, not_false_eq_true, implies_true, Bool.not_false, Bool.true_eq_false, Bool.false_eq_true, Option.map_some, List.set_cons_succ, List.set_cons_zero, List.getD_cons_succ, List.getD_cons_zero, Zau, Zef, Zbk, Zda, Zfu, List.any_cons, List.any_nil, ↓reduceIte, Za2, Za0, Za6, Za5, Za4, Zac, Zai, Zaw, Zap, Zdt, false_imp_iff, and_self, List.toList_toArray, Ze5, kd_l, Zc5, Zc4, kd_r, Zcf, Zbn, Zba, Zcs, Zci, Zde, Zbx, Zbw, Zbu, Zeb, Op.operands, Zg3, Zfp, Ze2, List.foldl_nil, Zas, Zbg, hgetn, Zad, Zb6, Zb5, Za8, Bool.or_self, Nat.add_zero, Nat.zero_add, Nat.succ_ne_zero, sz5, ag5, st27, Za1 (hcv _), hcv, kd_h, Zca, Zd4, Zd5, Zex, Ze3, Zdk, Zcb, Zcc, Zcd, Zfc, Zen, Zff, List.all_cons, List.all_nil, Bool.and_self, Zgx, h34, Zew, mp65, key5, Zfq, Zh5, Zia, Zhd, g4, g5, zo64, show Nat.testBit 7 0 = true by decide, show Nat.testBit 15 2 = true by decide, show Nat.testBit 15 3 = true by decide]
      simp only [List.cons_append, List.nil_append, Za7, Zal, Za3, Zae, Zao, Za9, Zbq, ne_eq, reduceCtorEq, not_false_eq_true, implies_true, Bool.not_false, Option.map_some, List.set_cons_succ, List.set_cons_zero, List.getD_cons_succ, List.getD_cons_zero, Zbk, Zda, ↓reduceIte, Za2, Za4, Zaw, Zap, Bool.and_true, Za1 (hcv _), Zgl Try.underlying64, Zcu, ko_val, Zio, Zgi, Zfv, hc, ↓stop13]
      exact w17_end _ _ [] l5 h _ _ rfl hm (by omega) (by first | omega | simp) rfl rfl rfl rfl
    by_cases k6 : n0 = 6
    · skip
      have g4 : ((n0 : Int) == 4) = false := by simp; omega
      have g5 : ((n0 : Int) == 5) = false := by simp; omega
      have g6 : ((n0 : Int) == 6) = true := by simp; omega
      simp only [fillM, show (Zgd n0 n1 n2 n3).kind = n0 from rfl] at hf
      rw [if_neg (by omega)] at hf; rw [if_neg (by omega)] at hf; rw [if_pos (by omega)] at hf
      split at hf
      rotate_left
      · cases hf
      rename_i x r1 t1
      cases hf
      have b1 := takeT_len t1
      have : ns = [] := by cases ns with
        | nil => rfl
        | cons n ns => simp [Zip, Zgd] at hm
      subst this
      have hc := c66 h (Zgd n0 n1 n2 n3) (.osl false true 0 []) (.e (.int .i64 0)) l4 [.int .i64 (n0 : Int), .int .i64 (n1 : Int), .int .i64 (n2 : Int), .int .i64 (n3 : Int)] (.map (Zh5 (h.length + 5))) hx4 t1
      simp only [Msg.cs, Zgd, Zh5] at hc
      simp only [List.length_cons, List.length_nil, Nat.reduceAdd, Zaj, Za3, Zao, Za9, St.put, List.getElem?_toArray, List.getElem?_cons_succ, List.getElem?_cons_zero, Option.bind_some, Nat.reduceLeDiff, ne_eq, reduceCtorEq, not_false_eq_true, implies_true, Bool.not_false, Bool.true_eq_false, Bool.false_eq_true, Option.map_some, List.set_cons_succ, List.set_cons_zero, List.getD_cons_succ, List.getD_cons_zero, Zau, Zef, Zbk, Zda, Zfu, List.any_cons, List.any_nil, ↓reduceIte, Za2, Za0, Za6, Za5, Za4, Zac, Zai, Zaw, Zap, Zdt, false_imp_iff, and_self, List.toList_toArray, Ze5, kd_l, Zc5, Zc4, kd_r, Zcf, Zbn, Zba, Zcs, Zci, Zde, Zbx, Zbw, Zbu, Zeb, Op.operands, Zg3, Zfp, Ze2, List.foldl_nil, Zas, Zbg, hgetn, Zad, Zb6, Zb5, Za8, Bool.or_self, Nat.add_zero, Nat.zero_add, Nat.succ_ne_zero, sz5, ag5, st27, Za1 (hcv _), hcv, kd_h, Zca, Zd4, Zd5, Zex, Ze3, Zdk, Zcb, Zcc, Zcd, Zfc, Zen, Zff, List.all_cons, List.all_nil, Bool.and_self, Zgx, h34, Zew, mp65, key5, Zfq, Zh5, Zia, Zhd, g4, g5, g6, zo64, show Nat.testBit 7 0 = true by decide, show Nat.testBit 15 2 = true by decide, show Nat.testBit 15 3 = true by decide]
      simp only [List.cons_append, List.nil_append, Za7, Zal, Za3, Zae, Zao, Za9, Zbq, ne_eq, reduceCtorEq, not_false_eq_true, implies_true, Bool.not_false, Option.map_some, List.set_cons_succ, List.set_cons_zero, List.getD_cons_succ, List.getD_cons_zero, Zbk, Zda, ↓reduceIte, Za2, Za4, Zaw, Zap, Bool.and_true, Za1 (hcv _), Zgl Try.underlying64, Zcu, ko_val, Zio, Zgi, Zfv, hc, ↓stop13]
      exact w17_end _ _ [] l5 h _ _ rfl hm (by omega) (by first | omega | simp) rfl rfl rfl rfl
    by_cases k7 : n0 = 7
    · skip
      have g4 : ((n0 : Int) == 4) = false := by simp; omega
      have g5 : ((n0 : Int) == 5) = false := by simp; omega
      have g6 : ((n0 : Int) == 6) = false := by simp; omega
      have g7 : ((n0 : Int) == 7) = true := by simp; omega
      simp only [fillM, show (Zgd n0 n1 n2 n3).kind = n0 from rfl] at hf
      rw [if_neg (by omega)] at hf; rw [if_neg (by omega)] at hf; rw [if_neg (by omega)] at hf; rw [if_pos (by omega)] at hf
      split at hf
      rotate_left
      · cases hf
      rename_i kk r1 t1
      split at hf
      rotate_left
      · cases hf
      rename_i nn r2 t2
      cases hf
      have b1 := Zfw t1; have b2 := parL_len t2
      have : nn = ns := intsN_inj hm
      subst this
      have hc := c68 h (Zgd n0 n1 n2 n3) (.e (.int .i64 0)) l4 [.int .i64 (n0 : Int), .int .i64 (n1 : Int), .int .i64 (n2 : Int), .int .i64 (n3 : Int)] (.map (Zh5 (h.length + 5))) hx4 t1 t2
      simp only [Msg.cs, Zgd, Zh5] at hc
      simp only [List.length_cons, List.length_nil, Nat.reduceAdd, Zaj, Za3, Zao, Za9, St.put, List.getElem?_toArray, List.getElem?_cons_succ, List.getElem?_cons_zero, Option.bind_some, Nat.reduceLeDiff, ne_eq, reduceCtorEq, not_false_eq_true, implies_true, Bool.not_false, Bool.true_eq_false, Bool.false_eq_true, Option.map_some, List.set_cons_succ, List.set_cons_zero, List.getD_cons_succ, List.getD_cons_zero, Zau, Zef, Zbk, Zda, Zfu, List.any_cons, List.any_nil, ↓reduceIte, Za2, Za0, Za6, Za5, Za4, Zac, Zai, Zaw, Zap, Zdt, false_imp_iff, and_self, List.toList_toArray, Ze5, kd_l, Zc5, Zc4, kd_r, Zcf, Zbn, Zba, Zcs, Zci, Zde, Zbx, Zbw, Zbu, Zeb, Op.operands, Zg3, Zfp, Ze2, List.foldl_nil, Zas, Zbg, hgetn, Zad, Zb6, Zb5, Za8, Bool.or_self, Nat.add_zero, Nat.zero_add, Nat.succ_ne_zero, sz5, ag5, st27, Za1 (hcv _), hcv, kd_h, Zca, Zd4, Zd5, Zex, Ze3, Zdk, Zcb, Zcc, Zcd, Zfc, Zen, Zff, List.all_cons, List.all_nil, Bool.and_self, Zgx, h34, Zew, mp65, key5, Zfq, Zh5, Zia, Zhd, g4, g5, g6, g7, zo64, show Nat.testBit 7 0 = true by decide, show Nat.testBit 15 2 = true by decide, show Nat.testBit 15 3 = true by decide]
      simp only [List.cons_append, List.nil_append, Za7, Zal, Za3, Zae, Zao, Za9, Zbq, ne_eq, reduceCtorEq, not_false_eq_true, implies_true, Bool.not_false, Option.map_some, List.set_cons_succ, List.set_cons_zero, List.getD_cons_succ, List.getD_cons_zero, Zbk, Zda, ↓reduceIte, Za2, Za4, Zaw, Zap, Bool.and_true, Za1 (hcv _), Zgl Try.underlying64, Zcu, ko_val, Zio, Zgi, Zfv, hc, ↓stop13]
      exact w17_end _ _ nn l5 h _ _ rfl hm (by omega) (by first | omega | simp) rfl rfl rfl rfl
    by_cases k10 : n0 = 10
    · skip
      have g4 : ((n0 : Int) == 4) = false := by simp; omega
      have g5 : ((n0 : Int) == 5) = false := by simp; omega
      have g6 : ((n0 : Int) == 6) = false := by simp; omega
      have g7 : ((n0 : Int) == 7) = false := by simp; omega
      have g10 : ((n0 : Int) == 10) = true := by simp; omega
      simp only [fillM, show (Zgd n0 n1 n2 n3).kind = n0 from rfl] at hf
      rw [if_neg (by omega)] at hf; rw [if_neg (by omega)] at hf; rw [if_neg (by omega)] at hf; rw [if_neg (by omega)] at hf; rw [if_pos (by omega)] at hf
      split at hf
      rotate_left
      · cases hf
      rename_i kk r1 t1
      split at hf
      rotate_left
      · cases hf
      rename_i bb r2 t2
      cases hf
      have b1 := Zfw t1; have b2 := parB_len t2
      have : ns = [] := by cases ns with
        | nil => rfl
        | cons n ns => simp [Zip, Zgd] at hm
      subst this
      have hc := c70 h (Zgd n0 n1 n2 n3) (.osl false true 0 []) (.e (.int .i64 0)) l4 [.int .i64 (n0 : Int), .int .i64 (n1 : Int), .int .i64 (n2 : Int), .int .i64 (n3 : Int)] (.map (Zh5 (h.length + 5))) hx4 t1 t2
      simp only [Msg.cs, Zgd, Zh5] at hc
      simp only [List.length_cons, List.length_nil, Nat.reduceAdd, Zaj, Za3, Zao, Za9, St.put, List.getElem?_toArray, List.getElem?_cons_succ, List.getElem?_cons_zero, Option.bind_some, Nat.reduceLeDiff, ne_eq, reduceCtorEq, not_false_eq_true, implies_true, Bool.not_false, Bool.true_eq_false, Bool.false_eq_true, Option.map_some, List.set_cons_succ, List.set_cons_zero, List.getD_cons_succ, List.getD_cons_zero, Zau, Zef, Zbk, Zda, Zfu, List.any_cons, List.any_nil, ↓reduceIte, Za2, Za0, Za6, Za5, Za4, Zac, Zai, Zaw, Zap, Zdt, false_imp_iff, and_self, List.toList_toArray, Ze5, kd_l, Zc5, Zc4, kd_r, Zcf, Zbn, Zba, Zcs, Zci, Zde, Zbx, Zbw, Zbu, Zeb, Op.operands, Zg3, Zfp, Ze2, List.foldl_nil, Zas, Zbg, hgetn, Zad, Zb6, Zb5, Za8, Bool.or_self, Nat.add_zero, Nat.zero_add, Nat.succ_ne_zero, sz5, ag5, st27, Za1 (hcv _), hcv, kd_h, Zca, Zd4, Zd5, Zex, Ze3, Zdk, Zcb, Zcc, Zcd, Zfc, Zen, Zff, List.all_cons, List.all_nil, Bool.and_self, Zgx, h34, Zew, mp65, key5, Zfq, Zh5, Zia, Zhd, g4, g5, g6, g7, g10, zo64, show Nat.testBit 7 0 = true by decide, show Nat.testBit 15 2 = true by decide, show Nat.testBit 15 3 = true by decide]
      simp only [List.cons_append, List.nil_append, Za7, Zal, Za3, Zae, Zao, Za9, Zbq, ne_eq, reduceCtorEq, not_false_eq_true, implies_true, Bool.not_false, Option.map_some, List.set_cons_succ, List.set_cons_zero, List.getD_cons_succ, List.getD_cons_zero, Zbk, Zda, ↓reduceIte, Za2, Za4, Zaw, Zap, Bool.and_true, Za1 (hcv _), Zgl Try.underlying64, Zcu, ko_val, Zio, Zgi, Zfv, hc, ↓stop13]
      exact w17_end _ _ [] l5 h _ _ rfl hm (by omega) (by first | omega | simp) rfl rfl rfl rfl
    by_cases k11 : n0 = 11
    · skip
      have g4 : ((n0 : Int) == 4) = false := by simp; omega
      have g5 : ((n0 : Int) == 5) = false := by simp; omega
      have g6 : ((n0 : Int) == 6) = false := by simp; omega
      have g7 : ((n0 : Int) == 7) = false := by simp; omega
      have g10 : ((n0 : Int) == 10) = false := by simp; omega
      have g11 : ((n0 : Int) == 11) = true := by simp; omega
      simp only [fillM, show (Zgd n0 n1 n2 n3).kind = n0 from rfl] at hf
      rw [if_neg (by omega)] at hf; rw [if_neg (by omega)] at hf; rw [if_neg (by omega)] at hf; rw [if_neg (by omega)] at hf; rw [if_neg (by omega)] at hf; rw [if_pos (by omega)] at hf
      split at hf
      rotate_left
      · cases hf
      rename_i kk r1 t1
      cases hf
      have b1 := Zfw t1
      have : ns = [] := by cases ns with
        | nil => rfl
        | cons n ns => simp [Zip, Zgd] at hm
      subst this
      have hc := c71 h (Zgd n0 n1 n2 n3) (.osl false true 0 []) (.e (.int .i64 0)) l4 [.int .i64 (n0 : Int), .int .i64 (n1 : Int), .int .i64 (n2 : Int), .int .i64 (n3 : Int)] (.map (Zh5 (h.length + 5))) hx4 t1
      simp only [Msg.cs, Zgd, Zh5] at hc
      simp only [List.length_cons, List.length_nil, Nat.reduceAdd, Zaj, Za3, Zao, Za9, St.put, List.getElem?_toArray, List.getElem?_cons_succ, List.getElem?_cons_zero, Option.bind_some, Nat.reduceLeDiff, ne_eq, reduceCtorEq, not_false_eq_true, implies_true, Bool.not_false, Bool.true_eq_false, Bool.false_eq_true, Option.map_some, List.set_cons_succ, List.set_cons_zero, List.getD_cons_succ, List.getD_cons_zero, Zau, Zef, Zbk, Zda, Zfu, List.any_cons, List.any_nil, ↓reduceIte, Za2, Za0, Za6, Za5, Za4, Zac, Zai, Zaw, Zap, Zdt, false_imp_iff, and_self, List.toList_toArray, Ze5, kd_l, Zc5, Zc4, kd_r, Zcf, Zbn, Zba, Zcs, Zci, Zde, Zbx, Zbw, Zbu, Zeb, Op.operands, Zg3, Zfp, Ze2, List.foldl_nil, Zas, Zbg, hgetn, Zad, Zb6, Zb5, Za8, Bool.or_self, Nat.add_zero, Nat.zero_add, Nat.succ_ne_zero, sz5, ag5, st27, Za1 (hcv _), hcv, kd_h, Zca, Zd4, Zd5, Zex, Ze3, Zdk, Zcb, Zcc, Zcd, Zfc, Zen, Zff, List.all_cons, List.all_nil, Bool.and_self, Zgx, h34, Zew, mp65, key5, Zfq, Zh5, Zia, Zhd, g4, g5, g6, g7, g10, g11, zo64, show Nat.testBit 7 0 = true by decide, show Nat.testBit 15 2 = true by decide, show Nat.testBit 15 3 = true by decide]
      simp only [List.cons_append, List.nil_append, Za7, Zal, Za3, Zae, Zao, Za9, Zbq, ne_eq, reduceCtorEq, not_false_eq_true, implies_true, Bool.not_false, Option.map_some, List.set_cons_succ, List.set_cons_zero, List.getD_cons_succ, List.getD_cons_zero, Zbk, Zda, ↓reduceIte, Za2, Za4, Zaw, Zap, Bool.and_true, Za1 (hcv _), Zgl Try.underlying64, Zcu, ko_val, Zio, Zgi, Zfv, hc, ↓stop13]
      exact w17_end _ _ [] l5 h _ _ rfl hm (by omega) (by first | omega | simp) rfl rfl rfl rfl
    have k12 : n0 = 12 := by omega
    have g4 : ((n0 : Int) == 4) = false := by simp; omega
    have g5 : ((n0 : Int) == 5) = false := by simp; omega
    have g6 : ((n0 : Int) == 6) = false := by simp; omega
    have g7 : ((n0 : Int) == 7) = false := by simp; omega
    have g10 : ((n0 : Int) == 10) = false := by simp; omega
    have g11 : ((n0 : Int) == 11) = false := by simp; omega
    have g12 : ((n0 : Int) == 12) = true := by simp; omega
    simp only [fillM, show (Zgd n0 n1 n2 n3).kind = n0 from rfl] at hf
    rw [if_neg (by omega)] at hf; rw [if_neg (by omega)] at hf; rw [if_neg (by omega)] at hf; rw [if_neg (by omega)] at hf; rw [if_neg (by omega)] at hf; rw [if_neg (by omega)] at hf; rw [if_pos (by omega)] at hf
    split at hf
    rotate_left
    · cases hf
    rename_i kk r1 t1
    have b1 := Zfw t1
    by_cases hz : kk = 0
    · subst hz
      rw [if_pos rfl] at hf
      split at hf
      rotate_left
      · cases hf
      rename_i x r2 t2
      cases hf
      have b2 := parP_len t2
      have : ns = [] := by cases ns with
        | nil => rfl
        | cons n ns => simp [Zip, Zgd] at hm
      subst this
      have hc := c72z h (Zgd n0 n1 n2 n3) (.osl false true 0 []) (.e (.int .i64 0)) l4 [.int .i64 (n0 : Int), .int .i64 (n1 : Int), .int .i64 (n2 : Int), .int .i64 (n3 : Int)] (.map (Zh5 (h.length + 5))) hx4 t1 t2
      simp only [Msg.cs, Zgd, Zh5] at hc
      simp only [List.length_cons, List.length_nil, Nat.reduceAdd, Zaj, Za3, Zao, Za9, St.put, List.getElem?_toArray, List.getElem?_cons_succ, List.getElem?_cons_zero, Option.bind_some, Nat.reduceLeDiff, ne_eq, reduceCtorEq, not_false_eq_true, implies_true, Bool.not_false, Bool.true_eq_false, Bool.false_eq_true, Option.map_some, List.set_cons_succ, List.set_cons_zero, List.getD_cons_succ, List.getD_cons_zero, Zau, Zef, Zbk, Zda, Zfu, List.any_cons, List.any_nil, ↓reduceIte, Za2, Za0, Za6, Za5, Za4, Zac, Zai, Zaw, Zap, Zdt, false_imp_iff, and_self, List.toList_toArray, Ze5, kd_l, Zc5, Zc4, kd_r, Zcf, Zbn, Zba, Zcs, Zci, Zde, Zbx, Zbw, Zbu, Zeb, Op.operands, Zg3, Zfp, Ze2, List.foldl_nil, Zas, Zbg, hgetn, Zad, Zb6, Zb5, Za8, Bool.or_self, Nat.add_zero, Nat.zero_add, Nat.succ_ne_zero, sz5, ag5, st27, Za1 (hcv _), hcv, kd_h, Zca, Zd4, Zd5, Zex, Ze3, Zdk, Zcb, Zcc, Zcd, Zfc, Zen, Zff, List.all_cons, List.all_nil, Bool.and_self, Zgx, h34, Zew, mp65, key5, Zfq, Zh5, Zia, Zhd, g4, g5, g6, g7, g10, g11, g12, zo64, show Nat.testBit 7 0 = true by decide, show Nat.testBit 15 2 = true by decide, show Nat.testBit 15 3 = true by decide]
      simp only [List.cons_append, List.nil_append, Za7, Zal, Za3, Zae, Zao, Za9, Zbq, ne_eq, reduceCtorEq, not_false_eq_true, implies_true, Bool.not_false, Option.map_some, List.set_cons_succ, List.set_cons_zero, List.getD_cons_succ, List.getD_cons_zero, Zbk, Zda, ↓reduceIte, Za2, Za4, Zaw, Zap, Bool.and_true, Za1 (hcv _), Zgl Try.underlying64, Zcu, ko_val, Zio, Zgi, Zfv, hc, ↓stop13]
      exact w17_end _ _ [] l5 h _ _ rfl hm (by omega) (by first | omega | simp) rfl rfl rfl rfl
    · rw [if_neg hz] at hf
      cases hf
      have : ns = [] := by cases ns with
        | nil => rfl
        | cons n ns => simp [Zip, Zgd] at hm
      subst this
      have hc := c72n h (Zgd n0 n1 n2 n3) (.osl false true 0 []) (.e (.int .i64 0)) l4 [.int .i64 (n0 : Int), .int .i64 (n1 : Int), .int .i64 (n2 : Int), .int .i64 (n3 : Int)] (.map (Zh5 (h.length + 5))) hx4 t1 hz
      simp only [Msg.cs, Zgd, Zh5] at hc
      simp only [List.length_cons, List.length_nil, Nat.reduceAdd, Zaj, Za3, Zao, Za9, St.put, List.getElem?_toArray, List.getElem?_cons_succ, List.getElem?_cons_zero, Option.bind_some, Nat.reduceLeDiff, ne_eq, reduceCtorEq, not_false_eq_true, implies_true, Bool.not_false, Bool.true_eq_false, Bool.false_eq_true, Option.map_some, List.set_cons_succ, List.set_cons_zero, List.getD_cons_succ, List.getD_cons_zero, Zau, Zef, Zbk, Zda, Zfu, List.any_cons, List.any_nil, ↓reduceIte, Za2, Za0, Za6, Za5, Za4, Zac, Zai, Zaw, Zap, Zdt, false_imp_iff, and_self, List.toList_toArray, Ze5, kd_l, Zc5, Zc4, kd_r, Zcf, Zbn, Zba, Zcs, Zci, Zde, Zbx, Zbw, Zbu, Zeb, Op.operands, Zg3, Zfp, Ze2, List.foldl_nil, Zas, Zbg, hgetn, Zad, Zb6, Zb5, Za8, Bool.or_self, Nat.add_zero, Nat.zero_add, Nat.succ_ne_zero, sz5, ag5, st27, Za1 (hcv _), hcv, kd_h, Zca, Zd4, Zd5, Zex, Ze3, Zdk, Zcb, Zcc, Zcd, Zfc, Zen, Zff, List.all_cons, List.all_nil, Bool.and_self, Zgx, h34, Zew, mp65, key5, Zfq, Zh5, Zia, Zhd, g4, g5, g6, g7, g10, g11, g12, zo64, show Nat.testBit 7 0 = true by decide, show Nat.testBit 15 2 = true by decide, show Nat.testBit 15 3 = true by decide]
      simp only [List.cons_append, List.nil_append, Za7, Zal, Za3, Zae, Zao, Za9, Zbq, ne_eq, reduceCtorEq, not_false_eq_true, implies_true, Bool.not_false, Option.map_some, List.set_cons_succ, List.set_cons_zero, List.getD_cons_succ, List.getD_cons_zero, Zbk, Zda, ↓reduceIte, Za2, Za4, Zaw, Zap, Bool.and_true, Za1 (hcv _), Zgl Try.underlying64, Zcu, ko_val, Zio, Zgi, Zfv, hc, ↓stop13]
      exact w17_end _ _ [] l5 h _ _ rfl hm (by omega) (by first | omega | simp) rfl rfl rfl rfl

end Go.Abs
