/-
  WIRE: may a message be? MORE RULES: loops over functions, rounds. WIRE: slices.Contains, the list of a message. WIRE: the list of a message. WIRE: the list of a message, its end. No condition.
-/
import Derived.Test.YtkimilghfbgjmaaP16

namespace Go.Abs
open Go Go.Proofs
set_option maxRecDepth 10000
set_option maxHeartbeats 4000000

/-- A message's head alone. -/
def Msg.head (m : Msg) : Msg := { kind := m.kind, call := m.call, frm := m.frm, to := m.to, key := 0, slow := false, done := false, place := 0, pred := 0, list := [], ikey := { data := #[] }, ival := 0, iver := 0, gone := false, code := 0 }
def Msg.asker (m : Msg) : Int := if asks m.kind then m.frm else m.to
def Msg.first (m : Msg) : Int := IntKind.i64.wrap (IntKind.i64.wrap (m.asker * 1048576) + 1)
/-- What the reference's Right tells. -/
noncomputable def Msg.right6 (m : Msg) : Bool :=
  !decide (m.kind < 1) && (!decide (13 ≤ m.kind) && (Zej m.frm && (Zej m.to && (!(m.frm == m.to) && (!decide (m.call < m.first) && (!decide (IntKind.i64.wrap (m.first + 1048576) ≤ m.call) &&
    ((decide (m.bare.list = m.head.list) && sameCs m.bare m.head) && m.has)))))))

theorem w10 (m : Msg) (l : D) (hl : Rd l (isE m.list)) (hx : m.list.length ≤ 1099511627776) (h : List O) : wc 10 [.agg (m.cs l)] h = some (.val (.bool m.right6), h) := by
  have h21 := w21 m l hl
  have h22 := w22 m l hl
  have h23 := w23 m l hl hx
  have hbl := bareL_rd (m := m) hl
  have hbx : m.bare.list.length ≤ 1099511627776 := by
    unfold Msg.bare; repeat' split
    all_goals first | exact hx | simp []; exact hx | simp
  have h13 := w13 m.bare m.head (bareL m l) (.osl false true 0 []) hbl Rd.osl hbx
  generalize hr' : (decide (m.bare.list = m.head.list) && sameCs m.bare m.head) = same at h13
  simp only [Msg.cs] at h21 h22 h23 h13
  simp only [Msg.head] at h13
  have hfirst : IntKind.i64.wrap (IntKind.i64.wrap ((if asks m.kind = true then m.frm else m.to) * 1048576) + 1) = m.first := rfl
  have hcv : ∀ i, wcv 10 i = [] := fun _ => rfl
  have hres : Try.f10.results.toList = [ResultVar.tmp 2] := rfl
  rw [wc, Zbt rfl Try.func10 rfl]
  simp only [Zbi, List.length_cons, List.length_nil, Nat.reduceAdd, Nat.reduceSub, List.replicate, List.cons_append, List.nil_append, Zaj, Za3, Zae, Zao, Zak, Za9, List.getElem?_toArray, List.getElem?_cons_succ, List.getElem?_cons_zero, Option.bind_some, Nat.reduceLT, Nat.reduceLeDiff, ne_eq, reduceCtorEq, not_false_eq_true, implies_true, Bool.false_eq_true, Option.map_some, List.set_cons_succ, List.set_cons_zero, List.getD_cons_succ, List.getD_cons_zero, Zau, Zbo, List.any_cons, List.any_nil, Zb3, ↓reduceIte, Za2, Za0, Za6, Zd2, Za5, Za4, Zaq, Zac, Zai, Zan, Zax, Zc2, Zbv, Option.some.injEq, Zas, Zbg, Zad, Zb6, Zb5, Zb1, Zb9, Zbs, Za8, Zag, Bool.or_self, Nat.add_zero, Nat.zero_add, Nat.succ_ne_zero, sz5, ag5, st27, Za1 (hcv _), Try.ntmps10, Msg.cs, hl.own]
  cases h1 : decide (m.kind < 1)
  rotate_left
  · simp only [List.length_cons, List.length_nil, Nat.reduceAdd, Zaj, Zaz, Za7, Zal, Za3, Zbr, Zae, Zao, Zak, Za9, Zdl, St.put, List.getElem?_toArray, List.getElem?_cons_succ, List.getElem?_cons_zero, Option.bind_some, Nat.reduceLT, ne_eq, reduceCtorEq, not_false_eq_true, implies_true, Bool.not_true, Bool.not_false, Option.map_some, List.set_cons_succ, List.set_cons_zero, List.getD_cons_succ, List.getD_cons_zero, Zau, ↓reduceIte, Za2, Za0, Zam, Za4, Zaq, Zb7, Zac, Zax, Zb0, Zab, Zaa, Zah, Zat, Zbm, Option.some.injEq, Zb2, Bool.false_and, Nat.zero_add, Za1 (hcv _), hres, h1, Msg.right6]
  simp only [List.length_cons, List.length_nil, Nat.reduceAdd, Zao, Zak, Za9, Zc0, List.getElem?_toArray, List.getElem?_cons_succ, List.getElem?_cons_zero, Option.bind_some, Nat.reduceLT, Nat.reduceLeDiff, ne_eq, reduceCtorEq, not_false_eq_true, implies_true, Bool.false_eq_true, Option.map_some, List.set_cons_succ, List.set_cons_zero, List.getD_cons_succ, List.getD_cons_zero, Zau, Zb3, ↓reduceIte, Za2, Za6, Zam, Za5, Zaf, Zac, Zai, Zan, Zem, Ze1, Option.some.injEq, Zas, Zbg, Zad, Zb6, Zb5, Zbs, Za8, Zag, Nat.add_zero, Nat.zero_add, Nat.succ_ne_zero, sz5, ag5, st27]
  cases h2 : decide (13 ≤ m.kind)
  rotate_left
  · simp only [List.length_cons, List.length_nil, Nat.reduceAdd, Zaj, Zaz, Za7, Zal, Za3, Zbr, Zae, Zao, Zak, Za9, Zdl, St.put, List.getElem?_toArray, List.getElem?_cons_succ, List.getElem?_cons_zero, Option.bind_some, Nat.reduceLT, ne_eq, reduceCtorEq, not_false_eq_true, implies_true, Bool.not_true, Bool.not_false, Option.map_some, List.set_cons_succ, List.set_cons_zero, List.getD_cons_succ, List.getD_cons_zero, Zau, ↓reduceIte, Za2, Za0, Zam, Za4, Zaq, Zb7, Zac, Zax, Zb0, Zab, Zaa, Zah, Zat, Zbm, Option.some.injEq, Zb2, Bool.and_false, Bool.false_and, Nat.zero_add, Za1 (hcv _), hres, h2, h1, Msg.right6]
  simp only [List.length_cons, List.length_nil, Nat.reduceAdd, Zao, Zbe, Zbf, Zak, Za9, Zbq, Zc0, List.getElem?_toArray, List.getElem?_cons_succ, List.getElem?_cons_zero, Option.bind_some, Nat.reduceLT, Nat.reduceLeDiff, ne_eq, reduceCtorEq, not_false_eq_true, implies_true, Bool.false_eq_true, Option.map_some, List.set_cons_succ, List.set_cons_zero, List.getD_cons_succ, List.getD_cons_zero, Zau, Zb3, ↓reduceIte, Za2, Zdn, Zam, Za5, Za4, Zaf, Zac, Zaw, Zap, Zes, Option.some.injEq, Zas, Zbg, Zad, Zb6, Zb5, Zbs, Za8, Zag, Nat.zero_add, Nat.succ_ne_zero, sz3, ag3, st27, w20]
  cases h3 : Zej m.frm
  · simp only [List.length_cons, List.length_nil, Nat.reduceAdd, Zaj, Zaz, Za7, Zal, Za3, Zbr, Zae, Zao, Zak, Za9, Zdl, St.put, List.getElem?_toArray, List.getElem?_cons_succ, List.getElem?_cons_zero, Option.bind_some, Nat.reduceLT, ne_eq, reduceCtorEq, not_false_eq_true, implies_true, Bool.not_false, Option.map_some, List.set_cons_succ, List.set_cons_zero, List.getD_cons_succ, List.getD_cons_zero, Zau, ↓reduceIte, Za2, Za0, Zam, Za4, Zaq, Zb7, Zac, Zax, Zb0, Zab, Zaa, Zah, Zat, Zbm, Option.some.injEq, Zb2, Bool.and_false, Bool.false_and, Nat.zero_add, Za1 (hcv _), hres, h3, h2, h1, Msg.right6]
  simp only [List.length_cons, List.length_nil, Nat.reduceAdd, Zao, Zbe, Zbf, Zak, Za9, Zbq, Zc0, List.getElem?_toArray, List.getElem?_cons_succ, List.getElem?_cons_zero, Option.bind_some, Nat.reduceLT, Nat.reduceLeDiff, ne_eq, reduceCtorEq, not_false_eq_true, implies_true, Bool.not_true, Bool.false_eq_true, Option.map_some, List.set_cons_succ, List.set_cons_zero, List.getD_cons_succ, List.getD_cons_zero, Zau, Zb3, ↓reduceIte, Za2, Zdn, Zam, Za5, Za4, Zaf, Zac, Zaw, Zap, Zes, Option.some.injEq, Zas, Zbg, Zad, Zb6, Zb5, Zbs, Za8, Zag, Nat.zero_add, Nat.succ_ne_zero, sz3, ag3, st27, w20]
  cases h4 : Zej m.to
  · simp only [List.length_cons, List.length_nil, Nat.reduceAdd, Zaj, Zaz, Za7, Zal, Za3, Zbr, Zae, Zao, Zak, Za9, Zdl, St.put, List.getElem?_toArray, List.getElem?_cons_succ, List.getElem?_cons_zero, Option.bind_some, Nat.reduceLT, ne_eq, reduceCtorEq, not_false_eq_true, implies_true, Bool.not_false, Option.map_some, List.set_cons_succ, List.set_cons_zero, List.getD_cons_succ, List.getD_cons_zero, Zau, ↓reduceIte, Za0, Zam, Za4, Zaq, Zb7, Zac, Zax, Zb0, Zab, Zaa, Zah, Zat, Zbm, Option.some.injEq, Zb2, Bool.and_false, Bool.false_and, Nat.zero_add, Za1 (hcv _), hres, h4, h3, h2, h1, Msg.right6]
  simp only [List.length_cons, List.length_nil, Nat.reduceAdd, Za7, Za3, Zae, Zao, Zak, Za9, Zc0, List.getElem?_toArray, List.getElem?_cons_succ, List.getElem?_cons_zero, Option.bind_some, Nat.reduceLT, Nat.reduceLeDiff, ne_eq, reduceCtorEq, not_false_eq_true, implies_true, Bool.not_true, Bool.false_eq_true, Option.map_some, List.set_cons_succ, List.set_cons_zero, List.getD_cons_succ, List.getD_cons_zero, Zau, Zb3, ↓reduceIte, Za6, Zam, Za5, Zaf, Zac, Zb8, Zay, Option.some.injEq, Zas, Zbg, Zad, Zb6, Zb5, Zbs, Za8, Zag, Nat.zero_add, Nat.succ_ne_zero, sz3, ag3, st27]
  cases h5 : m.frm == m.to
  rotate_left
  · simp only [Zaj, Zaz, Zal, Za3, Zbr, Zae, Zao, Za9, ne_eq, reduceCtorEq, not_false_eq_true, implies_true, Bool.not_true, Bool.not_false, Option.map_some, List.set_cons_succ, List.set_cons_zero, List.getD_cons_succ, List.getD_cons_zero, Zau, Za0, Za4, Zaq, Zax, Zb0, Zab, Zaa, Zah, Zat, Zbm, Zb2, Bool.and_false, Bool.false_and, Za1 (hcv _), hres, h5, h4, h3, h2, h1, Msg.right6]
  simp only [List.length_cons, List.length_nil, Nat.reduceAdd, Zaj, Zbz, Zar, Za3, Zae, Zao, Zbe, Zbf, Zak, Za9, Zbq, List.getElem?_toArray, List.getElem?_cons_succ, List.getElem?_cons_zero, Option.bind_some, Nat.reduceLT, Nat.reduceLeDiff, ne_eq, reduceCtorEq, not_false_eq_true, implies_true, Bool.false_eq_true, Option.map_some, List.set_cons_succ, List.set_cons_zero, List.getD_cons_succ, List.getD_cons_zero, Zau, Zbo, List.any_cons, List.any_nil, Zb3, ↓reduceIte, Za2, Za0, Za6, Za5, Za4, Zac, Zai, Zaw, Zap, Zan, Zdf, binD_mul, Zc2, Zcv, Zih, Zbv, Option.some.injEq, Zas, Zbg, Zad, Zb6, Zb5, Zbs, List.take_succ_cons, List.take_zero, List.drop_zero, Za8, Zag, Bool.or_self, Nat.zero_add, Nat.succ_ne_zero, Nat.le_refl, sz3, sz27, ag3, ag27, st27, Za1 (hcv _), hl.own, h21, hfirst]
  cases h6 : decide (m.call < m.first)
  rotate_left
  · simp only [List.length_cons, List.length_nil, Nat.reduceAdd, Zaj, Zaz, Za7, Zal, Za3, Zbr, Zae, Zao, Zak, Za9, Zdl, St.put, List.getElem?_toArray, List.getElem?_cons_succ, List.getElem?_cons_zero, Option.bind_some, Nat.reduceLT, ne_eq, reduceCtorEq, not_false_eq_true, implies_true, Bool.not_true, Bool.not_false, Option.map_some, List.set_cons_succ, List.set_cons_zero, List.getD_cons_succ, List.getD_cons_zero, Zau, ↓reduceIte, Za0, Zam, Za4, Zaq, Zb7, Zac, Zax, Zb0, Zab, Zaa, Zah, Zat, Zbm, Option.some.injEq, Zb2, Bool.and_false, Bool.false_and, Nat.zero_add, Za1 (hcv _), hres, h6, h5, h4, h3, h2, h1, Msg.right6]
  simp only [List.length_cons, List.length_nil, Nat.reduceAdd, Za7, Za3, Zae, Zao, Zak, Za9, Zc0, List.getElem?_toArray, List.getElem?_cons_succ, List.getElem?_cons_zero, Option.bind_some, Nat.reduceLT, Nat.reduceLeDiff, ne_eq, reduceCtorEq, not_false_eq_true, implies_true, Bool.false_eq_true, Option.map_some, List.set_cons_succ, List.set_cons_zero, List.getD_cons_succ, List.getD_cons_zero, Zau, Zb3, ↓reduceIte, Za2, Za6, Zam, Za5, Zaf, Zac, Zai, Zan, Zdf, Zem, Zcv, Ze1, Option.some.injEq, Zas, Zbg, Zad, Zb6, Zb5, Zbs, Za8, Zag, Nat.zero_add, Nat.succ_ne_zero, sz3, ag3, st27]
  cases h7 : decide (IntKind.i64.wrap (m.first + 1048576) ≤ m.call)
  rotate_left
  · simp only [Zaj, Zaz, Zal, Za3, Zbr, Zae, Zao, Za9, ne_eq, reduceCtorEq, not_false_eq_true, implies_true, Bool.not_true, Bool.not_false, Option.map_some, List.set_cons_succ, List.set_cons_zero, List.getD_cons_succ, List.getD_cons_zero, Zau, Za0, Za4, Zaq, Zax, Zb0, Zab, Zaa, Zah, Zat, Zbm, Zb2, Bool.and_false, Bool.false_and, Za1 (hcv _), hres, h7, h6, h5, h4, h3, h2, h1, Msg.right6]
  simp only [List.length_cons, List.length_nil, Nat.reduceAdd, List.cons_append, List.nil_append, Zaj, Zbz, Zar, Za3, Zae, Zao, Za9, Zce, List.getElem?_cons_succ, List.getElem?_cons_zero, Option.bind_some, Nat.reduceLeDiff, ne_eq, reduceCtorEq, not_false_eq_true, implies_true, Bool.false_eq_true, Option.map_some, List.set_cons_succ, List.set_cons_zero, List.getD_cons_succ, List.getD_cons_zero, Zau, Zbo, List.any_cons, List.any_nil, Zb3, Zds, ↓reduceIte, Zdz, Zdv, Zbc, Za5, Za4, Zac, Zaw, Zap, and_self, List.append_nil, Zas, Zbh, Zbg, Zcz, Ze4, hlen, Zi9, Zad, Zb6, Zb5, Zb4, Zb1, Zb9, Zbs, Zcq, List.take_zero, List.drop_succ_cons, List.drop_zero, List.map_cons, List.map_nil, Za8, Zag, Bool.or_self, Nat.add_zero, Nat.zero_add, Nat.succ_ne_zero, Nat.le_refl, sz3, sz5, sz27, ag3, ag5, st27, Za1 (hcv _), zo27, build27, List.zip_cons_cons, List.zip_nil_right]
  refine (Zf8 (l := plan10_7) (by exact plan10_7_eq)).trans ?_
  simp only [List.length_cons, List.length_nil, Nat.reduceAdd, St.put, List.getElem?_toArray, List.getElem?_cons_succ, List.getElem?_cons_zero, Option.bind_some, Nat.reduceLT, ne_eq, reduceCtorEq, not_false_eq_true, implies_true, Bool.not_false, Bool.false_eq_true, List.set_cons_succ, List.set_cons_zero, List.getD_cons_succ, List.getD_cons_zero, Zau, Zef, Zbo, Zbk, List.any_cons, List.any_nil, Zb3, Zds, ↓reduceIte, Za4, Zac, Zaw, Zap, and_self, Option.some.injEq, kd_l, Zc5, Zc4, kd_r, Zcf, Zee, Zch, Zbn, Zc6, Zba, Zdg, Zci, Zde, Zg3, Zj5, Zfp, Ziy, Ze2, List.foldl_nil, Zas, Zbh, Zbg, Zcz, Zad, List.take_succ_cons, List.take_zero, List.drop_zero, List.map_cons, List.map_nil, Bool.or_self, Nat.zero_add, Nat.le_refl, sz27, ag27, hcv, kd_h, Zca, kdRO_g, Zd4, Zd5, Ze3, Zdk, Zcb, Zcc, Zcd, Zfc, Zen, Zff, List.all_cons, List.all_nil, Bool.and_self, plan10_7, hl.own, hl.exc, hl.shr, h22, h13, hbl.own]
  cases same
  · simp only [List.length_cons, List.length_nil, Nat.reduceAdd, Zaz, Za3, St.put, List.getElem?_toArray, List.getElem?_cons_succ, List.getElem?_cons_zero, Option.bind_some, Nat.reduceLT, ne_eq, reduceCtorEq, not_false_eq_true, implies_true, Bool.not_true, Bool.not_false, Bool.false_eq_true, Option.map_some, List.set_cons_succ, List.set_cons_zero, List.getD_cons_succ, List.getD_cons_zero, Zau, Zef, List.any_cons, List.any_nil, ↓reduceIte, Za0, Zam, Za4, Zb7, Zac, Zax, Zb0, Zab, Zaa, Zah, Zat, Zbm, and_self, List.toList_toArray, Option.some.injEq, Ze5, kd_l, Zc5, Zc4, Zcs, Zci, Zde, Zbx, Zbw, Zdc, Zhc, Op.operands, Zg3, Zj5, Zfp, Ziy, Zas, Zbh, Zbg, Zcz, Zad, Zb2, List.take_succ_cons, List.take_zero, List.drop_zero, List.map_cons, List.map_nil, Bool.or_self, Bool.and_false, Bool.false_and, Nat.zero_add, Nat.le_refl, sz27, ag27, hres, kd_h, Zca, kdRG_no, kdHO_g, kdHG_no, Zex, Zdk, Zcb, Zcc, Zcd, List.all_nil, Bool.and_self, hl.exc, hl.shr, Msg.right6, h1, h2, h3, h4, h5, h6, h7, hr']
  · simp only [List.length_cons, List.length_nil, Nat.reduceAdd, Zaz, Za3, St.put, List.getElem?_toArray, List.getElem?_cons_succ, List.getElem?_cons_zero, Option.bind_some, Nat.reduceLT, ne_eq, reduceCtorEq, not_false_eq_true, implies_true, Bool.not_false, Bool.false_eq_true, Option.map_some, List.set_cons_succ, List.set_cons_zero, List.getD_cons_succ, List.getD_cons_zero, Zau, Zbo, List.any_cons, List.any_nil, Zb3, ↓reduceIte, Za0, Zam, Za4, Zaf, Zac, Zaw, Zap, Zb0, Zab, Zaa, Zah, Zat, Zbm, and_self, List.toList_toArray, Option.some.injEq, Ze5, kd_l, Zc5, Zc4, Zcs, Zci, Zde, Zbx, Zbw, Zdc, Zhc, Op.operands, Zg3, Zj5, Zfp, Ziy, Zas, Zbh, Zbg, Zcz, Zad, Zb2, List.take_succ_cons, List.take_zero, List.drop_zero, List.map_cons, List.map_nil, Bool.or_self, Bool.true_and, Nat.zero_add, Nat.le_refl, sz27, ag27, hres, kd_h, Zca, kdRG_yes, kdHO_g, kdHG_yes, Zd4, Zd5, Zex, Ze3, Zdk, Zcb, Zcc, Zcd, Zfc, Zen, Zff, List.all_nil, Bool.and_self, hl.own, hl.exc, hl.shr, h23, Msg.right6, h1, h2, h3, h4, h5, h6, h7, hr']

end Go.Abs

namespace Go.Abs

section
variable {P : Program} {pr : FuncId → List D → Option D} {cv : FuncId → Nat → List Cv} {β : Type} {k : X × St → Option β} {fn : FuncId} {tl : List D} {df : List (FuncId × List D)} {r : Rc} {h : List O} {all : Array Oper} {l : List Oper}

/-- Behind the function that a loop goes over. -/
noncomputable def kRng (s : St) (k : X × St → Option β) (r : Option (Out × List O)) : Option β :=
  (r.bind (loopEnd s)).bind k
theorem kx_range {f : Operand} {ps : Array Tmp} {asg body : Code} {g : FuncId} {first cap : List D} {s : St} (hk : okRnd s = true) (hf : rd s f = some (.func (.func g) first cap)) (hno : (noOwn first && noOwn cap) = true) :
    kx P pr cv fn (.rangeFunc f ps asg body) s k = kRng s k (call P pr cv (.fn g) (first ++ [.func (.yield s.h.length) [] []] ++ cap) (s.h ++ [.loop .ready none fn (s.t.map shrT) ps.toList asg body])) := by
  unfold kx; rw [exec]
  simp only [hk, if_true, hf, hno, kRng]
  cases call P pr cv (.fn g) (first ++ [.func (.yield s.h.length) [] []] ++ cap) (s.h ++ [.loop .ready none fn (s.t.map shrT) ps.toList asg body]) <;> rfl
/-- It ends by itself. -/
theorem kRng_nrm {d : D} {h' : List O} {st : LoopState} {f : FuncId} {env : List D} {ps : List Tmp} {asg body : Code} (hl : h'[h.length]? = some (.loop st none f env ps asg body)) (hs : st ≠ .busy) :
    kRng ⟨tl, df, r, h⟩ k (some (.val d, h')) = k (.nrm, ⟨tl.map kep, df, r, gc h.length h (h'.set h.length .dead) Zav⟩) := by
  simp [kRng, loopEnd, Zh3, hl, hs]
theorem kRng_ret {d : D} {h' : List O} {st : LoopState} {f : FuncId} {env : List D} {ps : List Tmp} {asg body : Code} (hl : h'[h.length]? = some (.loop st (some .ret) f env ps asg body)) (hs : st ≠ .busy) :
    kRng ⟨tl, df, r, h⟩ k (some (.val d, h')) = k (.ret, ⟨tl.map kep, df, r, gc h.length h (h'.set h.length .dead) Zav⟩) := by
  simp [kRng, loopEnd, Zh3, hl, hs]
/-- A call of a value. -/
theorem ko_yield {dst : Option Tmp} {t : Tmp} {args : Array Operand} {ats : Array TypeId} {ty : TypeId} {pos : String} {af : Array Edge} {lp : Nat} {ds : List D} {s1 : St} (hv : tl.getD t Zav = .func (.yield lp) [] []) (ht : tks ⟨tl, df, r, h⟩ args.toList = some (ds, s1)) :
    ko P pr cv all (⟨dst, .call { callee := .value (.tmp t), args := args, argTypes := ats }, ty, pos, af, none⟩ :: l) ⟨tl, df, r, h⟩ k = kC P pr cv all l dst s1 k (call P pr cv (.round lp) ds s1.h) :=
  ko_go rfl (by simp only [Zfb, rd, hv, ht])
/-! ### rounds -/
noncomputable def kBody (P : Program) (pr : FuncId → List D → Option D) (cv : FuncId → Nat → List Cv) (l : Nat) (fn : FuncId) (body : Code) : X × St → Option (Out × List O) := fun r =>
  match r.1, roundBegin l r.2.h with
  | .nrm, some h1 => kx P pr cv fn body ⟨r.2.t, [], .rnd l, h1⟩ (fun q => roundOut l q.1 q.2)
  | _, _ => none
theorem call_round {lp : Nat} {args : List D} {st : LoopState} {pd : Option Code} {env : List D} {ps : List Tmp} {asg body : Code} (hl : h[lp]? = some (.loop st pd fn env ps asg body)) (hps : ps.length = args.length) :
    call P pr cv (.round lp) args h = kx P pr cv fn asg ⟨(ps.zip args).foldl (fun t p => t.set p.1 p.2) env, [], .rnd lp, h⟩ (kBody P pr cv lp fn body) := by
  have hf : Zh3 h lp = some (st, pd, fn, env, ps, asg, body) := by simp [Zh3, hl]
  rw [call]
  simp only [hf, hps, if_true]
  unfold kx
  cases hx : exec P pr cv fn asg ⟨(ps.zip args).foldl (fun t p => t.set p.1 p.2) env, [], .rnd lp, h⟩ with
  | none => rfl
  | some q =>
    obtain ⟨x, s1⟩ := q
    simp only [Option.bind_eq_bind, Option.bind_some, kBody]
    cases x <;> cases roundBegin lp s1.h <;> rfl
theorem kBody_nrm {lp : Nat} {pd : Option Code} {f : FuncId} {env : List D} {ps : List Tmp} {asg b body : Code} (hl : h[lp]? = some (.loop .ready pd f env ps asg b)) :
    kBody P pr cv lp fn body (.nrm, ⟨tl, df, r, h⟩) = kx P pr cv fn body ⟨tl, [], .rnd lp, h.set lp (.loop .busy pd f env ps asg b)⟩ (fun q => roundOut lp q.1 q.2) := by
  simp [kBody, roundBegin, Zh3, hl]
theorem rout_nrm {lp : Nat} {st : LoopState} {pd : Option Code} {f : FuncId} {env : List D} {ps : List Tmp} {asg body : Code} (hl : h[lp]? = some (.loop st pd f env ps asg body)) :
    roundOut lp .nrm ⟨tl, [], r, h⟩ = some (.val (.bool true), h.set lp (.loop .ready none f env ps asg body)) := by
  simp [roundOut, roundEnd, Zh3, hl]
theorem rout_ret {lp : Nat} {st : LoopState} {pd : Option Code} {f : FuncId} {env : List D} {ps : List Tmp} {asg body : Code} (hl : h[lp]? = some (.loop st pd f env ps asg body)) :
    roundOut lp .ret ⟨tl, [], r, h⟩ = some (.val (.bool false), h.set lp (.loop .done (some .ret) f env ps asg body)) := by
  simp [roundOut, roundEnd, Zh3, hl]
theorem gc_not {n : Nat} {h h' : List O} {d : D} (hf : ¬ Fit n d) : gc n h h' d = h' := by
  unfold gc; rw [if_neg]; exact fun x => hf x.1
theorem fit_ptr {n i o : Nat} : Fit n (.ptr i o) = (i < n) := propext ⟨fun h => by cases h; assumption, fun h => .ptr i o h⟩
theorem fit_func {n : Nat} {f : FuncId} {ds cs : List D} : Fit n (.func (.func f) ds cs) = ((∀ d ∈ ds, Fit n d) ∧ ∀ d ∈ cs, Fit n d) := propext ⟨fun h => by cases h with | func _ _ _ h1 h2 => exact ⟨h1, h2⟩, fun h => .func f ds cs h.1 h.2⟩
/-- Objects behind that nobody speaks of. -/
theorem gc_set {h ex : List O} {d : D} {i : Nat} {o o' : O} (hf : Fit h.length d) (hi : h[i]? = some o) (ho : FitO h.length o') : gc h.length h (h.set i o' ++ ex) d = h.set i o' := by
  unfold gc
  have hlt := (List.getElem?_eq_some_iff.1 hi).1
  have : Keeps h.length h (h.set i o' ++ ex) := ⟨by simp, fun j hj a b h1 h2 => by
    rw [List.getElem?_append_left (by simpa using hj)] at h2
    by_cases e : i = j
    · subst e
      rw [List.getElem?_set_self hlt] at h2
      cases h2; exact .inr ho
    · rw [List.getElem?_set_ne e, h1] at h2
      cases h2; exact .inl (.refl _)⟩
  rw [if_pos ⟨hf, this⟩]
  rw [List.take_append_of_le_length (by simp)]
  exact List.take_of_length_le (by simp)
end

end Go.Abs

namespace Go.Abs
open Go Go.Proofs
set_option maxRecDepth 10000
set_option maxHeartbeats 4000000

def ixOf (xs : List Int) (v : Int) : Int := if v ∈ xs then (xs.idxOf v : Int) else -1
theorem ixOf_found {xs : List Int} {v : Int} {i : Nat} (hi : xs[i]? = some v) (hb : ∀ j, j < i → xs[j]? ≠ some v) : ixOf xs v = i := by
  have hm : v ∈ xs := List.mem_of_getElem? hi
  rw [ixOf, if_pos hm]
  congr 1
  induction xs generalizing i with
  | nil => simp at hi
  | cons x xs ih =>
    cases i with
    | zero => simp at hi; simp [hi]
    | succ i =>
      have hx : x ≠ v := fun e => hb 0 (by omega) (by simp [e])
      have := ih (i := i) (by simpa using hi) (fun j hj => by have := hb (j + 1) (by omega); simpa using this) (List.mem_of_getElem? (by simpa using hi))
      rw [List.idxOf_cons]
      have hb' : (x == v) = false := by simp [hx]
      rw [hb', this]; rfl
theorem ixOf_none {xs : List Int} {v : Int} (hb : ∀ j, j < xs.length → xs[j]? ≠ some v) : ixOf xs v = -1 := by
  rw [ixOf, if_neg]
  intro hm
  obtain ⟨j, hj⟩ := List.mem_iff_getElem?.1 hm
  exact hb j ((List.getElem?_eq_some_iff.1 hj).1) hj

theorem w95 (a : D) (xs : List Int) (v : Int) (ha : Rd a (isE xs)) (hx : xs.length ≤ 1099511627776) (h : List O) : wc 95 [a, .int .i64 v] h = some (.val (.int .i64 (ixOf xs v)), h) := by
  have la := rd_len ha
  have hcv : ∀ i, wcv 95 i = [] := fun _ => rfl
  have hres : Try.f95.results.toList = [ResultVar.tmp 4] := rfl
  rw [wc, Zbt rfl Try.func95 rfl]
  simp only [Zbi, List.length_cons, List.length_nil, Nat.reduceAdd, Nat.reduceSub, List.replicate, List.cons_append, List.nil_append, Zaj, Zc3, Za3, Zae, Zao, Zbb, Za9, List.getElem?_toArray, List.getElem?_cons_zero, Option.bind_some, ne_eq, reduceCtorEq, not_false_eq_true, implies_true, Option.map_some, List.set_cons_succ, List.set_cons_zero, List.getD_cons_succ, List.getD_cons_zero, Za2, Zep, Za0, Zaq, Zac, Zan, Int.reduceNeg, Zd0, Option.bind_eq_bind, Nat.zero_add, Option.pure_def, Za1 (hcv _), Try.ntmps95, ha.ownD, la]
  refine Zfd (fun (n : Nat) (s : St) => ∃ i : Nat, (i + n = xs.length ∧ ∀ j, j < i → xs[j]? ≠ some v) ∧ ∃ zs_, s = ⟨mkT [some (a), some (.int .i64 v), none, none, none, none, none, some (.int .i64 xs.length), some (.int .i64 i), none, none, none, none, none, none, none, none, none, none] zs_ 0, [], .no, h⟩) ?_ (xs.length) ⟨0, ⟨by omega, fun j hj => absurd hj (by omega)⟩, Zd7 rfl rfl rfl rfl⟩
  rintro n _ ⟨i, hf_o, zs_o, rfl⟩ IH_o
  obtain ⟨hn, ht⟩ := hf_o
  by_cases hi : i < xs.length
  rotate_left
  · have e2 : decide ((i : Int) < xs.length) = false := by simp; omega
    have hz := ixOf_none (xs := xs) (v := v) (fun j hj => ht j (by omega))
    simp only [Nat.reduceAdd, Zaj, Zaz, Zfe, Za7, Zar, Za3, Zeg, Zeh, Zdu, Zae, Zao, Za9, ne_eq, reduceCtorEq, not_false_eq_true, implies_true, Option.map_some, List.set_cons_succ, List.set_cons_zero, List.getD_cons_succ, List.getD_cons_zero, Zau, ↓reduceIte, Za0, Za6, Za4, Zaq, Zac, Zan, Zc2, Int.reduceNeg, Zbv, Zb0, Zab, Zaa, Zah, Zat, Zcn, Zbm, mkT, Nat.zero_add, Za1 (hcv _), hres, e2, hz]
  have e2 : decide ((i : Int) < xs.length) = true := by simp; omega
  have hxi : xs[i]? = some xs[i] := List.getElem?_eq_getElem hi
  generalize xs[i] = x at hxi
  have ia := rd_ix ha hxi
  simp only [List.length_cons, List.length_nil, Nat.reduceAdd, Zaj, Zbz, Zc3, Za7, Zal, Za3, Zae, Zao, Za9, List.getElem?_cons_zero, Option.bind_some, ne_eq, reduceCtorEq, not_false_eq_true, implies_true, Option.map_some, List.set_cons_succ, List.set_cons_zero, List.getD_cons_succ, List.getD_cons_zero, Zau, ↓reduceIte, Za2, Za0, Za6, Zbl, Za4, Zaf, Zac, Zb8, Zc2, Int.reduceNeg, Zay, Zbv, mkT, Zdh, Zim, Zag, Nat.zero_add, Nat.le_refl, sz3, ag3, Za1 (hcv _), e2, ha.ownD, ia]
  by_cases hvx : v = x
  · subst hvx
    have hz := ixOf_found hxi ht
    simp only [Zaj, Zaz, Zal, Za3, Zbr, Zcl, Zfy, Zae, Zao, Za9, ne_eq, reduceCtorEq, not_false_eq_true, implies_true, Option.map_some, List.set_cons_succ, List.set_cons_zero, List.getD_cons_succ, List.getD_cons_zero, Zau, Za2, Za0, Za4, Int.reduceNeg, Zb0, Zab, Zaa, Zah, Zat, Zcn, Zbm, Za1 (hcv _), hres, beq_self_eq_true, hz]
  · have e3 : (v == x) = false := by simp [hvx]
    simp only [Zbz, Zar, Za3, Zc8, Ze8, Zae, Zao, Za9, ne_eq, reduceCtorEq, not_false_eq_true, implies_true, Option.map_some, List.set_cons_succ, List.set_cons_zero, List.getD_cons_succ, List.getD_cons_zero, Zau, Za2, Za6, Zac, Zai, Zan, Zdf, Int.reduceNeg, Zcv, Za1 (hcv _), e3, inc64 hi hx]
    refine IH_o (xs.length - (i + 1)) _ (by omega) ⟨i + 1, ⟨by omega, fun j hj => ?_⟩, Zd7 rfl rfl rfl rfl⟩
    by_cases hji : j = i
    · subst hji; rw [hxi]; simpa using fun e => hvx e.symm
    · exact ht j (by omega)

theorem w93 (a : D) (xs : List Int) (v : Int) (ha : Rd a (isE xs)) (hx : xs.length ≤ 1099511627776) (h : List O) : wc 93 [a, .int .i64 v] h = some (.val (.bool (decide (v ∈ xs))), h) := by
  have h95 := w95 a xs v ha hx
  have : decide (0 ≤ ixOf xs v) = decide (v ∈ xs) := by
    unfold ixOf; split <;> rename_i hm <;> simp [hm]
  have hcv : ∀ i, wcv 93 i = [] := fun _ => rfl
  have hres : Try.f93.results.toList = [ResultVar.tmp 4] := rfl
  rw [wc, Zbt rfl Try.func93 rfl]
  simp only [Zbi, List.length_cons, List.length_nil, Nat.reduceAdd, Nat.reduceSub, List.replicate, List.cons_append, List.nil_append, Zaj, Zaz, Za3, Zae, Zao, Zbe, Zbf, Za9, Zbq, ne_eq, reduceCtorEq, not_false_eq_true, implies_true, Option.map_some, List.set_cons_succ, List.set_cons_zero, List.getD_cons_succ, List.getD_cons_zero, Zau, Za2, Za0, Za6, Za4, Zaq, Zac, Zai, Zaw, Zap, Zan, Zax, Zem, Ze1, Zb0, Zab, Zaa, Zah, Zat, Zcn, Zbm, Nat.zero_add, Za1 (hcv _), Try.ntmps93, hres, ha.ownD, h95, this]

theorem w89 (a : D) (xs : List Int) (v : Int) (ha : Rd a (isE xs)) (h : List O) : wc 89 [a, .int .i64 v] h = some (.val (.func (.func 92) [] [.ptr h.length 0, .ptr (h.length + 1) 0]), h ++ [.cells [a], .cells [.int .i64 v]]) := by
  have hcv : ∀ i, wcv 89 i = [] := fun _ => rfl
  have hres : Try.f89.results.toList = [ResultVar.tmp 4] := rfl
  rw [wc, Zbt rfl Try.func89 rfl]
  simp only [Zbi, List.length_cons, List.length_nil, Nat.reduceAdd, Nat.reduceSub, List.replicate, List.cons_append, List.nil_append, Zaj, Zaz, Za3, Zae, Zao, Za9, ne_eq, reduceCtorEq, not_false_eq_true, implies_true, Option.map_some, List.set_cons_succ, List.set_cons_zero, List.getD_cons_succ, List.getD_cons_zero, Zau, Zbk, Zda, ↓reduceIte, Za0, Zd2, Zec, Za4, Zaf, Zaq, Ze7, Zd9, Zdt, Zb0, Zab, Zaa, Zah, Zat, Option.some.injEq, Prod.mk.injEq, true_and, hlen, Zi9, Zc9, Zco, Nat.zero_add, Za1 (hcv _), Try.ntmps89, hres, ha.ownD, ha.cells, ha.notTup]
  rw [gc_not]
  simp [fit_func, fit_ptr]

theorem bnd_int {k : IntKind} {i : Int} {y : Nat} (h0 : 0 ≤ i) (h1 : i ≤ y) : bnd (.e (.int k i)) y = some i.toNat := by simp [bnd, h0, h1]
theorem slice_of {P : Program} {t e : TypeId} {x : D} {es : List (List E)} {sz l h : Nat} {lo hi : Option D} (hu : P.underlying t = some (.slice e)) (hz : szOf P e = some sz) (hs : slOf x = some es) (hok : okRows sz es = true) (hp : 0 < sz) (hh : bndO hi es.length es.length = some h) (hl : bndO lo 0 h = some l) :
    sliceD P t x lo hi none = some (.e (.sl ((es.take h).drop l))) := by
  unfold sliceD
  rw [hu]
  cases x with
  | e v => simp [hz, hs, hok, hp, hh, hl]
  | osl ex fu sz' es' => simp [hz, hs, hok, hp, hh, hl]
  | _ => simp [slOf] at hs
theorem ok_isE (xs : List Int) : okRows 1 (isE xs) = true := by simp [okRows, isE]

end Go.Abs

namespace Go.Abs
open Go Go.Proofs
set_option maxRecDepth 10000
set_option maxHeartbeats 4000000

/-- Every round goes on. -/
def AllG (xs : List Int) (frm : Int) (good : Int → Bool → Bool) : Prop := ∀ (i : Nat) x, xs[i]? = some x → good x (x != frm && !decide (x ∈ xs.take i)) = true

open Classical in
theorem w92 (H H' : List O) (L p1 p2 : Nat) (a : D) (xs : List Int) (frm : Int) (ha : Rd a (isE xs)) (hx : xs.length ≤ 1099511627776) (hc1 : Zbp H p1 = some [a]) (hc2 : Zbp H p2 = some [.int .i64 frm]) (good : Int → Bool → Bool)
    (hr : ∀ n b, call Try.prog wpr wcv (.round L) [.int .i64 n, .bool b] H = some (.val (.bool (good n b)), if good n b then H else H')) (hgc : gc H.length H H' Zav = H') :
    wc 92 [.func (.yield L) [] [], .ptr p1 0, .ptr p2 0] H = some (.val Zav, if AllG xs frm good then H else H') := by
  have la := rd_len ha
  have hcv : ∀ i, wcv 92 i = [] := fun _ => rfl
  have hres : Try.f92.results.toList = [] := rfl
  rw [wc, Zbt rfl Try.func92 rfl]
  simp only [Zbi, List.length_cons, List.length_nil, Nat.reduceAdd, Nat.reduceSub, List.replicate, List.cons_append, List.nil_append, Zaj, Zc3, Za3, Zae, Zao, Zbb, Za9, List.getElem?_toArray, List.getElem?_cons_zero, Option.bind_some, ne_eq, reduceCtorEq, not_false_eq_true, implies_true, Bool.false_eq_true, Option.map_some, List.set_cons_succ, List.set_cons_zero, List.getD_cons_succ, List.getD_cons_zero, ↓reduceIte, Zep, Zac, Zan, Zd0, Zad, Zbs, Option.bind_eq_bind, Zag, Nat.zero_add, Option.pure_def, Nat.le_refl, sz22, ag22, Za1 (hcv _), Try.ntmps92, ha.own, la, hc1]
  refine Zfd (fun (n : Nat) (s : St) => ∃ i : Nat, (i + n = xs.length ∧ ∀ j x, j < i → xs[j]? = some x → good x (x != frm && !decide (x ∈ xs.take j)) = true) ∧ ∃ zs_, s = ⟨mkT [some (.func (.yield L) [] []), some (.ptr p1 0), some (.ptr p2 0), none, none, none, some (a), some (.int .i64 xs.length), some (.int .i64 i), none, none, none, none, none, none, none, none, none, none, none, none, none, none, none, none, none, none, none, none] zs_ 0, [], .no, H⟩) ?_ (xs.length) ⟨0, ⟨by omega, fun j x hj => absurd hj (by omega)⟩, Zd7 rfl rfl rfl rfl⟩
  rintro n _ ⟨i, hf_o, zs_o, rfl⟩ IH_o
  obtain ⟨hn, ht⟩ := hf_o
  by_cases hi : i < xs.length
  rotate_left
  · have e2 : decide ((i : Int) < xs.length) = false := by simp; omega
    have hz : AllG xs frm good := fun j x hj => ht j x (by have := (List.getElem?_eq_some_iff.1 hj).1; omega) hj
    simp only [Nat.reduceAdd, Zaj, Zfe, Za7, Zar, Za3, Zeg, Zeh, Zdu, Zae, Zao, Za9, ne_eq, reduceCtorEq, not_false_eq_true, implies_true, Option.map_some, List.set_cons_succ, List.set_cons_zero, List.getD_cons_succ, List.getD_cons_zero, ↓reduceIte, Za6, Zac, Zc2, Zbv, Zer, Zab, Zaa, Zcr, Zcn, Zcw, List.not_mem_nil, false_imp_iff, mkT, Nat.zero_add, Za1 (hcv _), hres, e2, hz]
  have e2 : decide ((i : Int) < xs.length) = true := by simp; omega
  have hxi : xs[i]? = some xs[i] := List.getElem?_eq_getElem hi
  generalize xs[i] = x at hxi
  have ia := rd_ix ha hxi
  have hsl : sliceD Try.prog 22 a none (some (.e (.int .i64 (i : Int)))) none = some (.e (.sl (isE (xs.take i)))) := by
    rw [slice_of (h := i) (l := 0) Try.underlying22 sz3 ha.sl (ok_isE xs) (by omega) (by rw [bndO, bnd_int (by omega) (by simp [isE]; omega)]; simp) rfl]
    simp [isE, List.map_take]
  have h93 := w93 (.e (.sl (isE (xs.take i)))) (xs.take i) x Rd.e (by simp; omega)
  have hrr := hr x (x != frm && !decide (x ∈ xs.take i))
  simp only [List.length_cons, List.length_nil, Nat.reduceAdd, Zaj, Zbz, Zc3, Za7, Zal, Za3, Zae, Zao, Zak, Za9, List.getElem?_toArray, List.getElem?_cons_succ, List.getElem?_cons_zero, Option.bind_some, Nat.reduceLT, ne_eq, reduceCtorEq, not_false_eq_true, implies_true, Bool.false_eq_true, Option.map_some, List.set_cons_succ, List.set_cons_zero, List.getD_cons_succ, List.getD_cons_zero, Zau, Zda, Zb3, ↓reduceIte, Za2, Za0, Za6, Zbl, Za4, Zaf, Zac, Zel, Zc2, Ze0, Zbv, Option.some.injEq, mkT, Zad, Zdh, Zbs, Zim, Zag, Nat.zero_add, Nat.le_refl, sz3, ag3, Za1 (hcv _), e2, ha.ownD, ia, hc2]
  generalize hbv : (x != frm && !decide (x ∈ xs.take i)) = bv at hrr
  have hstep : good x bv = true → ∀ (j : Nat) y, j < i + 1 → xs[j]? = some y → good y (y != frm && !decide (y ∈ xs.take j)) = true := by
    intro hg j y hj hy
    by_cases hji : j = i
    · subst hji; rw [hxi] at hy; cases hy; rw [hbv]; exact hg
    · exact ht j y (by omega) hy
  have hbad : good x bv = false → ¬ AllG xs frm good := by
    intro hg hall
    have := hall i x hxi
    rw [hbv, hg] at this; cases this
  cases hxf : (x != frm)
  · rw [hxf, Bool.false_and] at hbv
    subst hbv
    simp only [List.length_cons, List.length_nil, Nat.reduceAdd, Zao, Zak, Za9, Zdl, St.put, List.getElem?_toArray, List.getElem?_cons_succ, List.getElem?_cons_zero, Option.bind_some, Nat.reduceLT, ne_eq, reduceCtorEq, not_false_eq_true, implies_true, Bool.not_true, Bool.false_eq_true, Option.map_some, List.set_cons_succ, List.set_cons_zero, List.getD_cons_succ, List.getD_cons_zero, ↓reduceIte, Zam, Zb7, Zac, Zax, Option.some.injEq, Nat.zero_add]
    rw [ko_yield rfl rfl]
    cases hg : good x false
    · rw [hg] at hrr
      simp only [Zaz, Za7, Zal, Za3, Zbr, Zcl, Zfy, Zae, Zao, Za9, Zbq, ne_eq, reduceCtorEq, not_false_eq_true, implies_true, Bool.not_false, Bool.false_eq_true, Option.map_some, List.set_cons_succ, List.set_cons_zero, List.getD_cons_succ, List.getD_cons_zero, ↓reduceIte, Zdn, Zac, Zes, Zb0, Zab, Zaa, Zcr, hres, hrr, hbad hg, hgc]
    · rw [hg] at hrr
      simp only [Zbz, Za7, Zar, Za3, Zc8, Ze8, Zae, Zao, Za9, Zbq, ne_eq, reduceCtorEq, not_false_eq_true, implies_true, Bool.not_true, Option.map_some, List.set_cons_succ, List.set_cons_zero, List.getD_cons_succ, List.getD_cons_zero, Zau, ↓reduceIte, Za2, Za6, Zdn, Zac, Zai, Zan, Zdf, Zcv, Zes, Za1 (hcv _), hrr, inc64 hi hx]
      refine IH_o (xs.length - (i + 1)) _ (by omega) ⟨i + 1, ⟨by omega, hstep hg⟩, Zd7 rfl rfl rfl rfl⟩
  · rw [hxf, Bool.true_and] at hbv
    simp only [List.length_cons, List.length_nil, Nat.reduceAdd, Zao, Zbe, Zbf, Zak, Za9, Zbq, Zc0, List.getElem?_toArray, List.getElem?_cons_succ, List.getElem?_cons_zero, Option.bind_some, Nat.reduceLT, ne_eq, reduceCtorEq, not_false_eq_true, implies_true, Bool.false_eq_true, Option.map_some, List.set_cons_succ, List.set_cons_zero, List.getD_cons_succ, List.getD_cons_zero, Zau, ↓reduceIte, Za2, Zdn, Zam, Zg9, Za4, Zaf, Zac, Zaw, Zap, Zg8, Zg7, Zes, Option.some.injEq, Zad, Zbs, Zag, Nat.zero_add, Nat.le_refl, sz22, ag22, hc1, ha.own, ha.ownD, hsl, h93, hbv]
    rw [ko_yield rfl rfl]
    cases hg : good x bv
    · rw [hg] at hrr
      simp only [Zaz, Za7, Zal, Za3, Zbr, Zcl, Zfy, Zae, Zao, Za9, Zbq, ne_eq, reduceCtorEq, not_false_eq_true, implies_true, Bool.not_false, Bool.false_eq_true, Option.map_some, List.set_cons_succ, List.set_cons_zero, List.getD_cons_succ, List.getD_cons_zero, ↓reduceIte, Zdn, Zac, Zes, Zb0, Zab, Zaa, Zcr, hres, hrr, hbad hg, hgc]
    · rw [hg] at hrr
      simp only [Zbz, Za7, Zar, Za3, Zc8, Ze8, Zae, Zao, Za9, Zbq, ne_eq, reduceCtorEq, not_false_eq_true, implies_true, Bool.not_true, Option.map_some, List.set_cons_succ, List.set_cons_zero, List.getD_cons_succ, List.getD_cons_zero, Zau, ↓reduceIte, Za2, Za6, Zdn, Zac, Zai, Zan, Zdf, Zcv, Zes, Za1 (hcv _), hrr, inc64 hi hx]
      refine IH_o (xs.length - (i + 1)) _ (by omega) ⟨i + 1, ⟨by omega, hstep hg⟩, Zd7 rfl rfl rfl rfl⟩

end Go.Abs

namespace Go.Abs
open Go Go.Proofs
set_option maxRecDepth 10000
set_option maxHeartbeats 4000000

def good78 (n : Int) (b : Bool) : Bool := b && Zej n
/-- The loop's body has returned. -/
def doneAt (H : List O) (L : Nat) : List O := match H[L]? with
  | some (.loop _ _ f env ps asg body) => H.set L (.loop .done (some .ret) f env ps asg body)
  | _ => H
theorem kRng_of {P : Program} {pr : FuncId → List D → Option D} {cv : FuncId → Nat → List Cv} {β : Type} {k : X × St → Option β} {s : St} {c v : Option (Out × List O)} {r : Option β} (hc : c = v) (h : kRng s k v = r) : kRng s k c = r := hc ▸ h

theorem all78 (xs : List Int) (frm : Int) : AllG xs frm good78 ↔ ListN xs frm xs.length := by
  constructor
  · intro hall j x hj hx
    have := hall j x hx
    simp only [good78, Bool.and_eq_true, bne_iff_ne, ne_eq, Bool.not_eq_true', decide_eq_false_iff_not] at this
    refine ⟨this.2, this.1.1, fun k y hk hy e => this.1.2 ?_⟩
    subst e
    exact List.mem_of_getElem? (i := k) (by rw [List.getElem?_take_of_lt hk]; exact hy)
  · intro hl i x hx
    obtain ⟨h1, h2, h3⟩ := hl i x (List.getElem?_eq_some_iff.1 hx).1 hx
    simp only [good78, Bool.and_eq_true, bne_iff_ne, ne_eq, Bool.not_eq_true', decide_eq_false_iff_not]
    refine ⟨⟨h2, fun hm => ?_⟩, h1⟩
    obtain ⟨k, hk⟩ := List.mem_iff_getElem?.1 hm
    have hki : k < i := by
      have := (List.getElem?_eq_some_iff.1 hk).1
      simp at this; omega
    rw [List.getElem?_take_of_lt hki] at hk
    exact h3 k x hki hk rfl

open Classical in
theorem w92b (H : List O) (L p1 p2 i0 : Nat) (a : D) (xs : List Int) (frm : Int) (ha : Rd a (isE xs)) (hx : xs.length ≤ 1099511627776) (hc1 : Zbp H p1 = some [a]) (hc2 : Zbp H p2 = some [.int .i64 frm]) (good : Int → Bool → Bool)
    (hr : ∀ n b, call Try.prog wpr wcv (.round L) [.int .i64 n, .bool b] H = some (.val (.bool (good n b)), if good n b then H else doneAt (H.set i0 (.cells [.bool false])) L)) (hgc : gc H.length H (doneAt (H.set i0 (.cells [.bool false])) L) Zav = doneAt (H.set i0 (.cells [.bool false])) L) :
    call Try.prog wpr wcv (.fn 92) [.func (.yield L) [] [], .ptr p1 0, .ptr p2 0] H = some (.val Zav, if AllG xs frm good then H else doneAt (H.set i0 (.cells [.bool false])) L) := w92 H _ L p1 p2 a xs frm ha hx hc1 hc2 good hr hgc
theorem doneAt_eq {H : List O} {L : Nat} {st : LoopState} {pd : Option Code} {f : FuncId} {env : List D} {ps : List Tmp} {asg body : Code} (hl : H[L]? = some (.loop st pd f env ps asg body)) : doneAt H L = H.set L (.loop .done (some .ret) f env ps asg body) := by simp [doneAt, hl]
theorem doneAt_len {H : List O} {L : Nat} : (doneAt H L).length = H.length := by unfold doneAt; split <;> simp
theorem Zf0 {n : Nat} {h h' : List O} {d : D} (hl : h'.length = n) : gc n h h' d = h' := by
  unfold gc; split
  · exact List.take_of_length_le (by omega)
  · rfl
section
variable {β : Type} {k : X × St → Option β} {tl : List D} {df : List (FuncId × List D)} {r : Rc} {h h' : List O}
theorem kRng_nrm' {n : Nat} {d : D} {st : LoopState} {f : FuncId} {env : List D} {ps : List Tmp} {asg body : Code} (hn : h.length = n) (hl : h'[n]? = some (.loop st none f env ps asg body)) (hs : st ≠ .busy) :
    kRng ⟨tl, df, r, h⟩ k (some (.val d, h')) = k (.nrm, ⟨tl.map kep, df, r, gc n h (h'.set n .dead) Zav⟩) := by subst hn; exact kRng_nrm hl hs
theorem kRng_ret' {n : Nat} {d : D} {st : LoopState} {f : FuncId} {env : List D} {ps : List Tmp} {asg body : Code} (hn : h.length = n) (hl : h'[n]? = some (.loop st (some .ret) f env ps asg body)) (hs : st ≠ .busy) :
    kRng ⟨tl, df, r, h⟩ k (some (.val d, h')) = k (.ret, ⟨tl.map kep, df, r, gc n h (h'.set n .dead) Zav⟩) := by subst hn; exact kRng_ret hl hs
end
/-- The objects l are as they were in lx's front, or fit. -/
def FrontO (n : Nat) : List O → List O → Prop
  | [], _ => True
  | a :: l, b :: lx => (b = a ∨ FitO n b) ∧ FrontO n l lx
  | _ :: _, [] => False
theorem frontO_len {n : Nat} {l lx : List O} (h : FrontO n l lx) : l.length ≤ lx.length := by
  induction l generalizing lx with
  | nil => simp
  | cons a l ih =>
    cases lx with
    | nil => exact h.elim
    | cons b lx => have := ih h.2; simp; omega
theorem frontO_get {n : Nat} {l lx : List O} (h : FrontO n l lx) {j : Nat} {o o' : O} (h1 : l[j]? = some o) (h2 : lx[j]? = some o') : o' = o ∨ FitO n o' := by
  induction l generalizing lx j with
  | nil => simp at h1
  | cons a l ih =>
    cases lx with
    | nil => exact h.elim
    | cons b lx =>
      cases j with
      | zero => simp at h1 h2; subst h1; subst h2; exact h.1
      | succ j => exact ih h.2 (by simpa using h1) (by simpa using h2)
theorem gc_tail {n : Nat} {h l lx : List O} {d : D} (hn : n = h.length + l.length) (hf : Fit n d) (hk : FrontO n l lx) : gc n (h ++ l) (h ++ lx) d = h ++ lx.take l.length := by
  have hle := frontO_len hk
  have hkeep : Keeps n (h ++ l) (h ++ lx) := by
    refine ⟨by simp; omega, fun i hi o o' h1 h2 => ?_⟩
    by_cases hih : i < h.length
    · rw [List.getElem?_append_left hih] at h1 h2
      rw [h1] at h2; cases h2; exact .inl (.refl _)
    · rw [List.getElem?_append_right (by omega)] at h1 h2
      rcases frontO_get hk h1 h2 with h4 | h4
      · subst h4; exact .inl (.refl _)
      · exact .inr h4
  unfold gc
  rw [if_pos ⟨hf, hkeep⟩, hn, List.take_append, List.take_of_length_le (by omega)]
  congr 2
  omega
theorem shrT_undef : shrT Zav = Zav := rfl
theorem shrT_e {x : E} : shrT (.e x) = .e x := rfl
theorem shrT_ptr {i o : Nat} : shrT (.ptr i o) = .ptr i o := rfl
theorem shrT_func {f : Fn} {a b : List D} : shrT (.func f a b) = .func f a b := rfl
theorem shrT_rd {d : D} {es : List (List E)} (h : Rd d es) : shrT d = d := by
  have h1 := h.own
  have h2 := h.sl
  cases d with
  | osl ex fu sz es' => cases ex <;> cases fu <;> simp_all [own0, shrT, shr, shr0]
  | _ => simp_all [slOf, shrT, shr, shr0]

theorem kep_undef : kep Zav = Zav := rfl
theorem kep_e {x : E} : kep (.e x) = .e x := rfl
theorem kep_ptr {i o : Nat} : kep (.ptr i o) = .ptr i o := rfl
theorem kep_func {f : Fn} {a b : List D} : kep (.func f a b) = .func f a b := rfl
theorem kep_rd {d : D} {es : List (List E)} (h : Rd d es) : kep d = d := by
  have h1 := h.own
  have h2 := h.sl
  cases d with
  | osl ex fu sz es' => cases ex <;> cases fu <;> simp_all [own0, kep, kep0]
  | _ => simp_all [slOf, kep, kep0]

open Classical in
theorem w78 (a : D) (xs : List Int) (frm : Int) (ha : Rd a (isE xs)) (hx : xs.length ≤ 1099511627776) (h : List O) : wc 78 [a, .int .i64 frm] h = some (.val (.bool (listZ xs frm)), h) := by
  have la := rd_len ha
  have h89 := w89 a xs frm ha
  have hcv : ∀ i, wcv 78 i = [] := fun _ => rfl
  have hres : Try.f78.results.toList = [ResultVar.cell 4 4] := rfl
  rw [wc, Zbt rfl Try.func78 rfl]
  simp only [Zbi, List.length_cons, List.length_nil, Nat.reduceAdd, Nat.reduceSub, List.replicate, List.cons_append, List.nil_append, Zaj, Zc3, Za3, Zae, Zao, Zbe, Zbf, Za9, Zbq, ne_eq, reduceCtorEq, not_false_eq_true, implies_true, List.set_cons_succ, List.set_cons_zero, List.getD_cons_succ, List.getD_cons_zero, Zau, ↓reduceIte, Za2, Zdz, Za4, Zaw, Zap, hlen, Zc9, Zco, Nat.zero_add, Za1 (hcv _), Try.ntmps78, ha.ownD, zo4, h89]
  rw [kx_range rfl rfl rfl]
  simp only [List.length_cons, List.length_nil, Nat.reduceAdd, List.cons_append, List.nil_append, hlen, List.map_cons, List.map_nil, Nat.zero_add, List.append_assoc, Nat.add_assoc, shrT_undef, shrT_e, shrT_ptr, shrT_func, shrT_rd ha]
  refine kRng_of (P := Try.prog) (pr := wpr) (cv := wcv) (w92b _ _ _ _ h.length a xs frm ha hx (by simp [Zbp]) (by simp [Zbp]) good78 ?_ ?_) ?_
  · intro n b
    refine (call_round (hgetn.trans rfl) rfl).trans ?_
    simp only [Zaj, Za3, Zae, Zao, Za9, ne_eq, reduceCtorEq, not_false_eq_true, implies_true, Option.map_some, List.set_cons_succ, List.set_cons_zero, List.getD_cons_succ, List.getD_cons_zero, Zau, Za0, Za4, List.foldl_nil, Zeu, Za1 (hcv _), List.zip_cons_cons, List.zip_nil_right, List.foldl_cons]
    rw [kBody_nrm (hgetn.trans rfl), doneAt_eq (hgetn.trans rfl)]
    cases b
    · simp only [List.length_cons, List.length_nil, Nat.reduceAdd, List.nil_append, Zaj, Zaz, Zc3, Za7, Zal, Za3, Zcl, Zae, Zao, Zak, Za9, Zce, Zdl, St.put, List.getElem?_toArray, List.getElem?_cons_succ, List.getElem?_cons_zero, Option.bind_some, Nat.reduceLT, ne_eq, reduceCtorEq, not_false_eq_true, implies_true, Bool.not_false, Bool.false_eq_true, Option.map_some, List.set_cons_succ, List.set_cons_zero, List.getD_cons_succ, List.getD_cons_zero, Zau, ↓reduceIte, Za2, Zdn, Zam, Zbc, Zaq, Zb7, Zac, Zax, Zes, and_self, Option.some.injEq, List.append_nil, Zas, Zbg, Zeu, Ze4, Zad, Zb4, Zc9, Zco, Zcq, List.take_zero, List.drop_succ_cons, List.drop_zero, Bool.false_and, Nat.zero_add, Nat.le_refl, sz4, Za1 (hcv _), good78]
      rw [rout_ret (hgetn.trans rfl)]
      simp only [List.set_cons_succ, List.set_cons_zero, Ze4]
    · simp only [List.length_cons, List.length_nil, Nat.reduceAdd, Zaj, Zc3, Za7, Za3, Zae, Zao, Zbe, Zbf, Zak, Za9, Zbq, Zc0, List.getElem?_toArray, List.getElem?_cons_succ, List.getElem?_cons_zero, Option.bind_some, Nat.reduceLT, ne_eq, reduceCtorEq, not_false_eq_true, implies_true, Bool.not_true, Bool.false_eq_true, Option.map_some, List.set_cons_succ, List.set_cons_zero, List.getD_cons_succ, List.getD_cons_zero, Zau, ↓reduceIte, Za2, Zdn, Zam, Za4, Zaf, Zac, Zaw, Zap, Zes, Option.some.injEq, Ze4, Bool.true_and, Nat.zero_add, Za1 (hcv _), good78, w42]
      cases hp : Zej n
      · simp only [List.length_cons, List.length_nil, List.nil_append, Zaj, Zaz, Zal, Za3, Zcl, Zae, Zao, Zce, Option.bind_some, ne_eq, reduceCtorEq, not_false_eq_true, implies_true, Bool.not_false, Bool.false_eq_true, Option.map_some, List.getD_cons_succ, List.getD_cons_zero, ↓reduceIte, Zbc, Zaq, Zac, Zax, and_self, List.append_nil, Zas, Zbg, Zeu, Zad, Zb4, Zc9, Zco, Zcq, List.take_zero, List.drop_succ_cons, List.drop_zero, Nat.zero_add, Nat.le_refl, sz4, Za1 (hcv _)]
        rw [rout_ret (hgetn.trans rfl)]
        simp only [List.set_cons_succ, List.set_cons_zero, Ze4]
      · simp only [Zbz, Zar, Zc8, Bool.not_true, ↓reduceIte]
        rw [rout_nrm (hgetn.trans rfl)]
        simp only [List.set_cons_succ, List.set_cons_zero, Ze4]
  · exact Zf0 (by rw [doneAt_len, List.length_set])
  · by_cases hall : AllG xs frm good78
    · rw [if_pos hall, kRng_nrm' (n := h.length + 3) (by simp) (hgetn.trans rfl) (by simp)]
      simp only [Zaj, Za3, Zc8, Zao, ne_eq, reduceCtorEq, not_false_eq_true, implies_true, List.set_cons_succ, List.set_cons_zero, Ze4, List.map_cons, List.map_nil, Za1 (hcv _)]
      rw [gc_tail (n := h.length + 3) (h := h) (l := [_, _, _]) rfl (.tup [] (by simp)) ?_]
      rotate_left
      · exact ⟨.inl rfl, .inl rfl, .inl rfl, trivial⟩
      have hz : listZ xs frm = decide ((xs.length : Int) ≤ 3) := by simp [listZ, (all78 xs frm).1 hall]
      simp only [List.length_cons, List.length_nil, Nat.reduceAdd, List.nil_append, Zaz, Za3, Zae, Zao, Zbb, Za9, Zce, List.getElem?_toArray, List.getElem?_cons_zero, Option.bind_some, ne_eq, reduceCtorEq, not_false_eq_true, implies_true, Bool.false_eq_true, Option.map_some, List.set_cons_succ, List.set_cons_zero, List.getD_cons_succ, List.getD_cons_zero, Zau, Zb3, ↓reduceIte, Za2, Za6, Zbc, Za4, Zac, Zai, Zan, Zfg, Zeo, Zd0, Zb0, Zab, Zaa, Zdy, Zat, Zbm, and_self, List.append_nil, Zas, Zbg, Zeu, Zad, Zb4, Zc9, Zco, Zbs, Zcq, Zb2, List.take_succ_cons, List.take_zero, List.drop_succ_cons, List.drop_zero, Option.bind_eq_bind, Nat.zero_add, Option.pure_def, Nat.le_refl, sz4, ag4, hres, kep_undef, kep_e, kep_ptr, kep_func, kep_rd ha, ha.ownD, la, hz]
    · rw [if_neg hall, Zeu, doneAt_eq (hgetn.trans rfl), kRng_ret' (n := h.length + 3) (by simp) (by rw [Ze4]; exact hgetn.trans rfl) (by simp)]
      simp only [Zbr, Zcl, List.set_cons_succ, List.set_cons_zero, List.getD_cons_succ, List.getD_cons_zero, Zb0, Zab, Zaa, Zdy, Ze4, List.map_cons, List.map_nil, hres]
      rw [gc_tail (n := h.length + 3) (h := h) (l := [_, _, _]) rfl (.tup [] (by simp)) ?_]
      rotate_left
      · exact ⟨.inr (.cells _ (by simp [Zbm])), .inl rfl, .inl rfl, trivial⟩
      have hz : listZ xs frm = false := by simp only [listZ, Bool.and_eq_false_iff, decide_eq_false_iff_not]; exact .inl fun hl => hall ((all78 xs frm).2 hl)
      simp only [List.length_cons, List.length_nil, Nat.reduceAdd, List.getElem?_cons_zero, Bool.false_eq_true, Zb3, ↓reduceIte, Zat, Zbm, Zas, Zbg, Zad, Zbs, Zb2, List.take_succ_cons, List.take_zero, Nat.zero_add, Nat.le_refl, sz4, ag4, kep_undef, kep_e, kep_ptr, kep_func, kep_rd ha, hz]

end Go.Abs
