/-
  WIRE: may a message be? MORE RULES: loops over functions, rounds. WIRE: slices.Contains, the list of a message. WIRE: the list of a message. WIRE: the list of a message, its end. No condition.
-/
import Derived.Test.YtkimilghfbgjmaaQ17

open List renaming any_cons → Yax, any_nil → Yay, cons_append → Yaj, drop_zero → Yb8, getD_cons_succ → Yak, getD_cons_zero → Yal, getElem?_cons_succ → Yam, getElem?_cons_zero → Yan, getElem?_toArray → Yao, length_cons → Yap, length_nil → Yaq, map_cons → Ybi, map_nil → Yba, nil_append → Yar, replicate → Yae, set_cons_succ → Yas, set_cons_zero → Yat, take_succ_cons → Ybc, take_zero → Ybd
open Option renaming bind_some → Yau, map_some → Ya2
open Bool renaming and_false → Yb0, false_and → Yb1, false_eq_true → Yav, not_false → Ybg, not_true → Yb2, or_self → Yb3
open Nat renaming le_refl → Yab, succ_ne_zero → Yb5, zero_add → Yaw
namespace Go.Abs
open Go Go.Proofs
set_option maxRecDepth 10000
set_option maxHeartbeats 4000000
def Msg.head (m : Msg) : Msg := { kind := m.kind, call := m.call, frm := m.frm, to := m.to, key := 0, slow := false, done := false, place := 0, pred := 0, list := [], ikey := { data := #[] }, ival := 0, iver := 0, gone := false, code := 0 }
def Msg.asker (m : Msg) : Int := if asks m.kind then m.frm else m.to
def Msg.first (m : Msg) : Int := IntKind.i64.wrap (IntKind.i64.wrap (m.asker * 1048576) + 1)
noncomputable def Msg.right6 (m : Msg) : Bool :=
  !decide (m.kind < 1) && (!decide (13 ≤ m.kind) && (Zfc m.frm && (Zfc m.to && (!(m.frm == m.to) && (!decide (m.call < m.first) && (!decide (IntKind.i64.wrap (m.first + 1048576) ≤ m.call) &&
    ((decide (m.bare.list = m.head.list) && Zlk m.bare m.head) && m.has)))))))
theorem w10 (m : Msg) (l : D) (hl : Rd l (isE m.list)) (hx : m.list.length ≤ 1099511627776) (h : List O) : wc 10 [.agg (m.cs l)] h = some (.val (.bool m.right6), h) := by
  have h21 := w21 m l hl
  have h22 := w22 m l hl
  have h23 := w23 m l hl hx
  have hbl := bareL_rd (m := m) hl
  have hbx : m.bare.list.length ≤ 1099511627776 := by
    unfold Msg.bare; repeat' split
    all_goals first | exact hx | simp []; exact hx | simp
  have h13 := w13 m.bare m.head (Zti m l) (.osl false true 0 []) hbl Rd.osl hbx
  generalize hr' : (decide (m.bare.list = m.head.list) && Zlk m.bare m.head) = same at h13
  simp only [Msg.cs] at h21 h22 h23 h13
  simp only [Msg.head] at h13
  have hfirst : IntKind.i64.wrap (IntKind.i64.wrap ((if asks m.kind = true then m.frm else m.to) * 1048576) + 1) = m.first := rfl
  have hcv : ∀ i, wcv 10 i = [] := fun _ => rfl
  have hres : Try.f10.results.toList = [ResultVar.tmp 2] := rfl
  rw [wc, Zbm rfl Try.func10 rfl]
  simp only [Zbj, Yap, Yaq, Nat.reduceAdd, Nat.reduceSub, Yae, Yaj, Yar, Zai, Za3, Zae, Zan, Zas, Za9, Yao, Yam, Yan, Yau, Nat.reduceLT, Nat.reduceLeDiff, ne_eq, reduceCtorEq, not_false_eq_true, implies_true, Yav, Ya2, Yas, Yat, Yak, Yal, Zau, Zbu, Yax, Yay, Zb7, ↓reduceIte, Za4, Za0, Za6, Zdq, Za5, Za2, Zap, Zab, Zag, Zam, Zax, Zc6, Zbs, Option.some.injEq, Zar, Zbk, Za8, Zba, Zb9, Zb0, Zb8, Zbt, Zaa, Zaj, Yb3, Nat.add_zero, Yaw, Yb5, sz5, ag5, st27, Za1 (hcv _), Try.ntmps10, Msg.cs, hl.own]
  cases h1 : decide (m.kind < 1)
  rotate_left
  · simp only [Yap, Yaq, Nat.reduceAdd, Zai, Zb2, Za7, Zak, Za3, Zc0, Zae, Zan, Zas, Za9, Ze8, St.put, Yao, Yam, Yan, Yau, Nat.reduceLT, ne_eq, reduceCtorEq, not_false_eq_true, implies_true, Yb2, Ybg, Ya2, Yas, Yat, Yak, Yal, Zau, ↓reduceIte, Za4, Za0, Zat, Za2, Zap, Zbh, Zab, Zax, Zb3, Zad, Zac, Zal, Zav, Zbr, Option.some.injEq, Zb4, Yb1, Yaw, Za1 (hcv _), hres, h1, Msg.right6]
  simp only [Yap, Yaq, Nat.reduceAdd, Zan, Zas, Za9, Zch, Yao, Yam, Yan, Yau, Nat.reduceLT, Nat.reduceLeDiff, ne_eq, reduceCtorEq, not_false_eq_true, implies_true, Yav, Ya2, Yas, Yat, Yak, Yal, Zau, Zb7, ↓reduceIte, Za4, Za6, Zat, Za5, Zaf, Zab, Zag, Zam, Zf2, Zeb, Option.some.injEq, Zar, Zbk, Za8, Zba, Zb9, Zbt, Zaa, Zaj, Nat.add_zero, Yaw, Yb5, sz5, ag5, st27]
  cases h2 : decide (13 ≤ m.kind)
  rotate_left
  · simp only [Yap, Yaq, Nat.reduceAdd, Zai, Zb2, Za7, Zak, Za3, Zc0, Zae, Zan, Zas, Za9, Ze8, St.put, Yao, Yam, Yan, Yau, Nat.reduceLT, ne_eq, reduceCtorEq, not_false_eq_true, implies_true, Yb2, Ybg, Ya2, Yas, Yat, Yak, Yal, Zau, ↓reduceIte, Za4, Za0, Zat, Za2, Zap, Zbh, Zab, Zax, Zb3, Zad, Zac, Zal, Zav, Zbr, Option.some.injEq, Zb4, Yb0, Yb1, Yaw, Za1 (hcv _), hres, h2, h1, Msg.right6]
  simp only [Yap, Yaq, Nat.reduceAdd, Zan, Zbf, Zbg, Zas, Za9, Zbq, Zch, Yao, Yam, Yan, Yau, Nat.reduceLT, Nat.reduceLeDiff, ne_eq, reduceCtorEq, not_false_eq_true, implies_true, Yav, Ya2, Yas, Yat, Yak, Yal, Zau, Zb7, ↓reduceIte, Za4, Ze0, Zat, Za5, Za2, Zaf, Zab, Zaq, Zah, Zf4, Option.some.injEq, Zar, Zbk, Za8, Zba, Zb9, Zbt, Zaa, Zaj, Yaw, Yb5, sz3, ag3, st27, w20]
  cases h3 : Zfc m.frm
  · simp only [Yap, Yaq, Nat.reduceAdd, Zai, Zb2, Za7, Zak, Za3, Zc0, Zae, Zan, Zas, Za9, Ze8, St.put, Yao, Yam, Yan, Yau, Nat.reduceLT, ne_eq, reduceCtorEq, not_false_eq_true, implies_true, Ybg, Ya2, Yas, Yat, Yak, Yal, Zau, ↓reduceIte, Za4, Za0, Zat, Za2, Zap, Zbh, Zab, Zax, Zb3, Zad, Zac, Zal, Zav, Zbr, Option.some.injEq, Zb4, Yb0, Yb1, Yaw, Za1 (hcv _), hres, h3, h2, h1, Msg.right6]
  simp only [Yap, Yaq, Nat.reduceAdd, Zan, Zbf, Zbg, Zas, Za9, Zbq, Zch, Yao, Yam, Yan, Yau, Nat.reduceLT, Nat.reduceLeDiff, ne_eq, reduceCtorEq, not_false_eq_true, implies_true, Yb2, Yav, Ya2, Yas, Yat, Yak, Yal, Zau, Zb7, ↓reduceIte, Za4, Ze0, Zat, Za5, Za2, Zaf, Zab, Zaq, Zah, Zf4, Option.some.injEq, Zar, Zbk, Za8, Zba, Zb9, Zbt, Zaa, Zaj, Yaw, Yb5, sz3, ag3, st27, w20]
  cases h4 : Zfc m.to
  · simp only [Yap, Yaq, Nat.reduceAdd, Zai, Zb2, Za7, Zak, Za3, Zc0, Zae, Zan, Zas, Za9, Ze8, St.put, Yao, Yam, Yan, Yau, Nat.reduceLT, ne_eq, reduceCtorEq, not_false_eq_true, implies_true, Ybg, Ya2, Yas, Yat, Yak, Yal, Zau, ↓reduceIte, Za0, Zat, Za2, Zap, Zbh, Zab, Zax, Zb3, Zad, Zac, Zal, Zav, Zbr, Option.some.injEq, Zb4, Yb0, Yb1, Yaw, Za1 (hcv _), hres, h4, h3, h2, h1, Msg.right6]
  simp only [Yap, Yaq, Nat.reduceAdd, Za7, Za3, Zae, Zan, Zas, Za9, Zch, Yao, Yam, Yan, Yau, Nat.reduceLT, Nat.reduceLeDiff, ne_eq, reduceCtorEq, not_false_eq_true, implies_true, Yb2, Yav, Ya2, Yas, Yat, Yak, Yal, Zau, Zb7, ↓reduceIte, Za6, Zat, Za5, Zaf, Zab, Zb6, Zay, Option.some.injEq, Zar, Zbk, Za8, Zba, Zb9, Zbt, Zaa, Zaj, Yaw, Yb5, sz3, ag3, st27]
  cases h5 : m.frm == m.to
  rotate_left
  · simp only [Zai, Zb2, Zak, Za3, Zc0, Zae, Zan, Za9, ne_eq, reduceCtorEq, not_false_eq_true, implies_true, Yb2, Ybg, Ya2, Yas, Yat, Yak, Yal, Zau, Za0, Za2, Zap, Zax, Zb3, Zad, Zac, Zal, Zav, Zbr, Zb4, Yb0, Yb1, Za1 (hcv _), hres, h5, h4, h3, h2, h1, Msg.right6]
  simp only [Yap, Yaq, Nat.reduceAdd, Zai, Zbw, Zao, Za3, Zae, Zan, Zbf, Zbg, Zas, Za9, Zbq, Yao, Yam, Yan, Yau, Nat.reduceLT, Nat.reduceLeDiff, ne_eq, reduceCtorEq, not_false_eq_true, implies_true, Yav, Ya2, Yas, Yat, Yak, Yal, Zau, Zbu, Yax, Yay, Zb7, ↓reduceIte, Za4, Za0, Za6, Za5, Za2, Zab, Zag, Zaq, Zah, Zam, Zdc, Zkh, Zc6, Zcz, Zj3, Zbs, Option.some.injEq, Zar, Zbk, Za8, Zba, Zb9, Zbt, Ybc, Ybd, Yb8, Zaa, Zaj, Yb3, Yaw, Yb5, Yab, sz3, sz27, ag3, ag27, st27, Za1 (hcv _), hl.own, h21, hfirst]
  cases h6 : decide (m.call < m.first)
  rotate_left
  · simp only [Yap, Yaq, Nat.reduceAdd, Zai, Zb2, Za7, Zak, Za3, Zc0, Zae, Zan, Zas, Za9, Ze8, St.put, Yao, Yam, Yan, Yau, Nat.reduceLT, ne_eq, reduceCtorEq, not_false_eq_true, implies_true, Yb2, Ybg, Ya2, Yas, Yat, Yak, Yal, Zau, ↓reduceIte, Za0, Zat, Za2, Zap, Zbh, Zab, Zax, Zb3, Zad, Zac, Zal, Zav, Zbr, Option.some.injEq, Zb4, Yb0, Yb1, Yaw, Za1 (hcv _), hres, h6, h5, h4, h3, h2, h1, Msg.right6]
  simp only [Yap, Yaq, Nat.reduceAdd, Za7, Za3, Zae, Zan, Zas, Za9, Zch, Yao, Yam, Yan, Yau, Nat.reduceLT, Nat.reduceLeDiff, ne_eq, reduceCtorEq, not_false_eq_true, implies_true, Yav, Ya2, Yas, Yat, Yak, Yal, Zau, Zb7, ↓reduceIte, Za4, Za6, Zat, Za5, Zaf, Zab, Zag, Zam, Zdc, Zf2, Zcz, Zeb, Option.some.injEq, Zar, Zbk, Za8, Zba, Zb9, Zbt, Zaa, Zaj, Yaw, Yb5, sz3, ag3, st27]
  cases h7 : decide (IntKind.i64.wrap (m.first + 1048576) ≤ m.call)
  rotate_left
  · simp only [Zai, Zb2, Zak, Za3, Zc0, Zae, Zan, Za9, ne_eq, reduceCtorEq, not_false_eq_true, implies_true, Yb2, Ybg, Ya2, Yas, Yat, Yak, Yal, Zau, Za0, Za2, Zap, Zax, Zb3, Zad, Zac, Zal, Zav, Zbr, Zb4, Yb0, Yb1, Za1 (hcv _), hres, h7, h6, h5, h4, h3, h2, h1, Msg.right6]
  simp only [Yap, Yaq, Nat.reduceAdd, Yaj, Yar, Zai, Zbw, Zao, Za3, Zae, Zan, Za9, Zcf, Yam, Yan, Yau, Nat.reduceLeDiff, ne_eq, reduceCtorEq, not_false_eq_true, implies_true, Yav, Ya2, Yas, Yat, Yak, Yal, Zau, Zbu, Yax, Yay, Zb7, Zd5, ↓reduceIte, Zd4, Zdk, Zbb, Za5, Za2, Zab, Zaq, Zah, and_self, List.append_nil, Zar, Zbe, Zbk, Zcr, Zdh, hlen, Zin, Za8, Zba, Zb9, Zb1, Zb0, Zb8, Zbt, Zco, Ybd, List.drop_succ_cons, Yb8, Ybi, Yba, Zaa, Zaj, Yb3, Nat.add_zero, Yaw, Yb5, Yab, sz3, sz5, sz27, ag3, ag5, st27, Za1 (hcv _), zo27, Zpe, List.zip_cons_cons, List.zip_nil_right]
  refine (Zed (l := Zv8) (by exact Zyk)).trans ?_
  simp only [Yap, Yaq, Nat.reduceAdd, St.put, Yao, Yam, Yan, Yau, Nat.reduceLT, ne_eq, reduceCtorEq, not_false_eq_true, implies_true, Ybg, Yav, Yas, Yat, Yak, Yal, Zau, Ze5, Zbu, Zb5, Yax, Yay, Zb7, Zd5, ↓reduceIte, Za2, Zab, Zaq, Zah, and_self, Option.some.injEq, kd_l, Zc3, Zc2, kd_r, Zc4, Zdo, Zc7, Zbc, Zbv, Zaz, Zd1, Zcb, Zcu, Zg6, Zjs, Zfm, Zjm, Zdn, List.foldl_nil, Zar, Zbe, Zbk, Zcr, Za8, Ybc, Ybd, Yb8, Ybi, Yba, Yb3, Yaw, Yab, sz27, ag27, hcv, kd_h, Zbz, kdRO_g, Zcj, Zck, Zdp, Zdf, Zc1, Zce, Zcc, Zf8, Zej, Zf9, List.all_cons, List.all_nil, Bool.and_self, Zv8, hl.own, hl.exc, hl.shr, h22, h13, hbl.own]
  cases same
  · simp only [Yap, Yaq, Nat.reduceAdd, Zb2, Za3, St.put, Yao, Yam, Yan, Yau, Nat.reduceLT, ne_eq, reduceCtorEq, not_false_eq_true, implies_true, Yb2, Ybg, Yav, Ya2, Yas, Yat, Yak, Yal, Zau, Ze5, Yax, Yay, ↓reduceIte, Za0, Zat, Za2, Zbh, Zab, Zax, Zb3, Zad, Zac, Zal, Zav, Zbr, and_self, List.toList_toArray, Option.some.injEq, Zdy, kd_l, Zc3, Zc2, Zcv, Zcb, Zcu, Zby, Zbx, Zdz, Zi1, Op.operands, Zg6, Zjs, Zfm, Zjm, Zar, Zbe, Zbk, Zcr, Za8, Zb4, Ybc, Ybd, Yb8, Ybi, Yba, Yb3, Yb0, Yb1, Yaw, Yab, sz27, ag27, hres, kd_h, Zbz, Zyx, Znz, Zss, Zes, Zdf, Zc1, Zce, Zcc, List.all_nil, Bool.and_self, hl.exc, hl.shr, Msg.right6, h1, h2, h3, h4, h5, h6, h7, hr']
  · simp only [Yap, Yaq, Nat.reduceAdd, Zb2, Za3, St.put, Yao, Yam, Yan, Yau, Nat.reduceLT, ne_eq, reduceCtorEq, not_false_eq_true, implies_true, Ybg, Yav, Ya2, Yas, Yat, Yak, Yal, Zau, Zbu, Yax, Yay, Zb7, ↓reduceIte, Za0, Zat, Za2, Zaf, Zab, Zaq, Zah, Zb3, Zad, Zac, Zal, Zav, Zbr, and_self, List.toList_toArray, Option.some.injEq, Zdy, kd_l, Zc3, Zc2, Zcv, Zcb, Zcu, Zby, Zbx, Zdz, Zi1, Op.operands, Zg6, Zjs, Zfm, Zjm, Zar, Zbe, Zbk, Zcr, Za8, Zb4, Ybc, Ybd, Yb8, Ybi, Yba, Yb3, Bool.true_and, Yaw, Yab, sz27, ag27, hres, kd_h, Zbz, Zrp, Znz, Zoc, Zcj, Zck, Zes, Zdp, Zdf, Zc1, Zce, Zcc, Zf8, Zej, Zf9, List.all_nil, Bool.and_self, hl.own, hl.exc, hl.shr, h23, Msg.right6, h1, h2, h3, h4, h5, h6, h7, hr']
end Go.Abs
namespace Go.Abs
section
variable {P : Program} {pr : FuncId → List D → Option D} {cv : FuncId → Nat → List Cv} {β : Type} {k : X × St → Option β} {fn : FuncId} {tl : List D} {df : List (FuncId × List D)} {r : Rc} {h : List O} {all : Array Oper} {l : List Oper}
noncomputable def kRng (s : St) (k : X × St → Option β) (r : Option (Out × List O)) : Option β :=
  (r.bind (Zqs s)).bind k
theorem Zl7 {f : Operand} {ps : Array Tmp} {asg body : Code} {g : FuncId} {first cap : List D} {s : St} (hk : okRnd s = true) (hf : rd s f = some (.func (.func g) first cap)) (hno : (Zlu first && Zlu cap) = true) :
    kx P pr cv fn (.rangeFunc f ps asg body) s k = kRng s k (call P pr cv (.fn g) (first ++ [.func (.yield s.h.length) [] []] ++ cap) (s.h ++ [.loop .ready none fn (s.t.map shrT) ps.toList asg body])) := by
  unfold kx; rw [exec]
  simp only [hk, if_true, hf, hno, kRng]
  cases call P pr cv (.fn g) (first ++ [.func (.yield s.h.length) [] []] ++ cap) (s.h ++ [.loop .ready none fn (s.t.map shrT) ps.toList asg body]) <;> rfl
theorem kRng_nrm {d : D} {h' : List O} {st : LoopState} {f : FuncId} {env : List D} {ps : List Tmp} {asg body : Code} (hl : h'[h.length]? = some (.loop st none f env ps asg body)) (hs : st ≠ .busy) :
    kRng ⟨tl, df, r, h⟩ k (some (.val d, h')) = k (.nrm, ⟨tl.map kep, df, r, gc h.length h (h'.set h.length .dead) Zaw⟩) := by
  simp [kRng, Zqs, Zhl, hl, hs]
theorem kRng_ret {d : D} {h' : List O} {st : LoopState} {f : FuncId} {env : List D} {ps : List Tmp} {asg body : Code} (hl : h'[h.length]? = some (.loop st (some .ret) f env ps asg body)) (hs : st ≠ .busy) :
    kRng ⟨tl, df, r, h⟩ k (some (.val d, h')) = k (.ret, ⟨tl.map kep, df, r, gc h.length h (h'.set h.length .dead) Zaw⟩) := by
  simp [kRng, Zqs, Zhl, hl, hs]
theorem kRng_pan {d : D} {h' : List O} : kRng ⟨tl, df, r, h⟩ k (some (.pan d, h')) = k (.pan d, ⟨tl.map kep, df, r, h'⟩) := rfl
theorem ko_yield {dst : Option Tmp} {t : Tmp} {args : Array Operand} {ats : Array TypeId} {ty : TypeId} {pos : String} {af : Array Edge} {lp : Nat} {ds : List D} {s1 : St} (hv : tl.getD t Zaw = .func (.yield lp) [] []) (ht : tks ⟨tl, df, r, h⟩ args.toList = some (ds, s1)) :
    ko P pr cv all (⟨dst, .call { callee := .value (.tmp t), args := args, argTypes := ats }, ty, pos, af, none⟩ :: l) ⟨tl, df, r, h⟩ k = kC P pr cv all l dst s1 k (call P pr cv (.round lp) ds s1.h) :=
  ko_go rfl (by simp only [Zfy, rd, hv, ht])
noncomputable def kBody (P : Program) (pr : FuncId → List D → Option D) (cv : FuncId → Nat → List Cv) (l : Nat) (fn : FuncId) (body : Code) : X × St → Option (Out × List O) := fun r =>
  match r.1, Zld l r.2.h with
  | .nrm, some h1 => kx P pr cv fn body ⟨r.2.t, [], .rnd l, h1⟩ (fun q => Zl2 l q.1 q.2)
  | _, _ => none
theorem Zit {lp : Nat} {args : List D} {st : LoopState} {pd : Option Code} {env : List D} {ps : List Tmp} {asg body : Code} (hl : h[lp]? = some (.loop st pd fn env ps asg body)) (hps : ps.length = args.length) :
    call P pr cv (.round lp) args h = kx P pr cv fn asg ⟨(ps.zip args).foldl (fun t p => t.set p.1 p.2) env, [], .rnd lp, h⟩ (kBody P pr cv lp fn body) := by
  have hf : Zhl h lp = some (st, pd, fn, env, ps, asg, body) := by simp [Zhl, hl]
  rw [call]
  simp only [hf, hps, if_true]
  unfold kx
  cases hx : exec P pr cv fn asg ⟨(ps.zip args).foldl (fun t p => t.set p.1 p.2) env, [], .rnd lp, h⟩ with
  | none => rfl
  | some q =>
    obtain ⟨x, s1⟩ := q
    simp only [Option.bind_eq_bind, Yau, kBody]
    cases x <;> cases Zld lp s1.h <;> rfl
theorem Zjr {lp : Nat} {pd : Option Code} {f : FuncId} {env : List D} {ps : List Tmp} {asg b body : Code} (hl : h[lp]? = some (.loop .ready pd f env ps asg b)) :
    kBody P pr cv lp fn body (.nrm, ⟨tl, df, r, h⟩) = kx P pr cv fn body ⟨tl, [], .rnd lp, h.set lp (.loop .busy pd f env ps asg b)⟩ (fun q => Zl2 lp q.1 q.2) := by
  simp [kBody, Zld, Zhl, hl]
theorem Zk8 {lp : Nat} {st : LoopState} {pd : Option Code} {f : FuncId} {env : List D} {ps : List Tmp} {asg body : Code} (hl : h[lp]? = some (.loop st pd f env ps asg body)) :
    Zl2 lp .nrm ⟨tl, [], r, h⟩ = some (.val (.bool true), h.set lp (.loop .ready none f env ps asg body)) := by
  simp [Zl2, Zlx, Zhl, hl]
theorem rout_ret {lp : Nat} {st : LoopState} {pd : Option Code} {f : FuncId} {env : List D} {ps : List Tmp} {asg body : Code} (hl : h[lp]? = some (.loop st pd f env ps asg body)) :
    Zl2 lp .ret ⟨tl, [], r, h⟩ = some (.val (.bool false), h.set lp (.loop .done (some .ret) f env ps asg body)) := by
  simp [Zl2, Zlx, Zhl, hl]
theorem Zu8 {n : Nat} {h h' : List O} {d : D} (hf : ¬ Fit n d) : gc n h h' d = h' := by
  unfold gc; rw [if_neg]; exact fun x => hf x.1
theorem Zvy {n i o : Nat} : Fit n (.ptr i o) = (i < n) := propext ⟨fun h => by cases h; assumption, fun h => .ptr i o h⟩
theorem Zrt {n : Nat} {f : FuncId} {ds cs : List D} : Fit n (.func (.func f) ds cs) = ((∀ d ∈ ds, Fit n d) ∧ ∀ d ∈ cs, Fit n d) := propext ⟨fun h => by cases h with | func _ _ _ h1 h2 => exact ⟨h1, h2⟩, fun h => .func f ds cs h.1 h.2⟩
theorem gc_set {h ex : List O} {d : D} {i : Nat} {o o' : O} (hf : Fit h.length d) (hi : h[i]? = some o) (ho : FitO h.length o') : gc h.length h (h.set i o' ++ ex) d = h.set i o' := by
  unfold gc
  have hlt := (List.getElem?_eq_some_iff.1 hi).1
  have : Keeps h.length h (h.set i o' ++ ex) := ⟨by simp, fun j hj a b h1 h2 => by
    rw [List.getElem?_append_left (by simpa using hj)] at h2
    by_cases e : i = j
    · subst e
      rw [List.getElem?_set_self hlt] at h2
      cases h2; exact .inr ho
    · rw [List.getElem?_set_ne e, h1] at h2
      cases h2; exact .inl (.refl _)⟩
  rw [if_pos ⟨hf, this⟩]
  rw [List.take_append_of_le_length (by simp)]
  exact List.take_of_length_le (by simp)
end
end Go.Abs
namespace Go.Abs
open Go Go.Proofs
set_option maxRecDepth 10000
set_option maxHeartbeats 4000000
def ixOf (xs : List Int) (v : Int) : Int := if v ∈ xs then (xs.idxOf v : Int) else -1
theorem ixOf_found {xs : List Int} {v : Int} {i : Nat} (hi : xs[i]? = some v) (hb : ∀ j, j < i → xs[j]? ≠ some v) : ixOf xs v = i := by
  have hm : v ∈ xs := List.mem_of_getElem? hi
  rw [ixOf, if_pos hm]
  congr 1
  induction xs generalizing i with
  | nil => simp at hi
  | cons x xs ih =>
    cases i with
    | zero => simp at hi; simp [hi]
    | succ i =>
      have hx : x ≠ v := fun e => hb 0 (by omega) (by simp [e])
      have := ih (i := i) (by simpa using hi) (fun j hj => by have := hb (j + 1) (by omega); simpa using this) (List.mem_of_getElem? (by simpa using hi))
      rw [List.idxOf_cons]
      have hb' : (x == v) = false := by simp [hx]
      rw [hb', this]; rfl
theorem ixOf_none {xs : List Int} {v : Int} (hb : ∀ j, j < xs.length → xs[j]? ≠ some v) : ixOf xs v = -1 := by
  rw [ixOf, if_neg]
  intro hm
  obtain ⟨j, hj⟩ := List.mem_iff_getElem?.1 hm
  exact hb j ((List.getElem?_eq_some_iff.1 hj).1) hj
theorem w95 (a : D) (xs : List Int) (v : Int) (ha : Rd a (isE xs)) (hx : xs.length ≤ 1099511627776) (h : List O) : wc 95 [a, .int .i64 v] h = some (.val (.int .i64 (ixOf xs v)), h) := by
  have la := Zws ha
  have hcv : ∀ i, wcv 95 i = [] := fun _ => rfl
  have hres : Try.f95.results.toList = [ResultVar.tmp 4] := rfl
  rw [wc, Zbm rfl Try.func95 rfl]
  simp only [Zbj, Yap, Yaq, Nat.reduceAdd, Nat.reduceSub, Yae, Yaj, Yar, Zai, Zc5, Za3, Zae, Zan, Zbd, Za9, Yao, Yan, Yau, ne_eq, reduceCtorEq, not_false_eq_true, implies_true, Ya2, Yas, Yat, Yak, Yal, Za4, Zea, Za0, Zap, Zab, Zam, Int.reduceNeg, Zd0, Option.bind_eq_bind, Yaw, Option.pure_def, Za1 (hcv _), Try.ntmps95, ha.ownD, la]
  refine Zff (fun (n : Nat) (s : St) => ∃ i : Nat, (i + n = xs.length ∧ ∀ j, j < i → xs[j]? ≠ some v) ∧ ∃ zs_, s = ⟨mkT [some (a), some (.int .i64 v), none, none, none, none, none, some (.int .i64 xs.length), some (.int .i64 i), none, none, none, none, none, none, none, none, none, none] zs_ 0, [], .no, h⟩) ?_ (xs.length) ⟨0, ⟨by omega, fun j hj => absurd hj (by omega)⟩, Zd8 rfl rfl rfl rfl⟩
  rintro n _ ⟨i, hf_o, zs_o, rfl⟩ IH_o
  obtain ⟨hn, ht⟩ := hf_o
  by_cases hi : i < xs.length
  rotate_left
  · have e2 : decide ((i : Int) < xs.length) = false := by simp; omega
    have hz := ixOf_none (xs := xs) (v := v) (fun j hj => ht j (by omega))
    simp only [Nat.reduceAdd, Zai, Zb2, Zfv, Za7, Zao, Za3, Zeq, Zer, Ze2, Zae, Zan, Za9, ne_eq, reduceCtorEq, not_false_eq_true, implies_true, Ya2, Yas, Yat, Yak, Yal, Zau, ↓reduceIte, Za0, Za6, Za2, Zap, Zab, Zam, Zc6, Int.reduceNeg, Zbs, Zb3, Zad, Zac, Zal, Zav, Zcq, Zbr, mkT, Yaw, Za1 (hcv _), hres, e2, hz]
  have e2 : decide ((i : Int) < xs.length) = true := by simp; omega
  have hxi : xs[i]? = some xs[i] := List.getElem?_eq_getElem hi
  generalize xs[i] = x at hxi
  have ia := rd_ix ha hxi
  simp only [Yap, Yaq, Nat.reduceAdd, Zai, Zbw, Zc5, Za7, Zak, Za3, Zae, Zan, Za9, Yan, Yau, ne_eq, reduceCtorEq, not_false_eq_true, implies_true, Ya2, Yas, Yat, Yak, Yal, Zau, ↓reduceIte, Za4, Za0, Za6, Zbo, Za2, Zaf, Zab, Zb6, Zc6, Int.reduceNeg, Zay, Zbs, mkT, Ze3, Zj0, Zaj, Yaw, Yab, sz3, ag3, Za1 (hcv _), e2, ha.ownD, ia]
  by_cases hvx : v = x
  · subst hvx
    have hz := ixOf_found hxi ht
    simp only [Zai, Zb2, Zak, Za3, Zc0, Zd3, Zgh, Zae, Zan, Za9, ne_eq, reduceCtorEq, not_false_eq_true, implies_true, Ya2, Yas, Yat, Yak, Yal, Zau, Za4, Za0, Za2, Int.reduceNeg, Zb3, Zad, Zac, Zal, Zav, Zcq, Zbr, Za1 (hcv _), hres, beq_self_eq_true, hz]
  · have e3 : (v == x) = false := by simp [hvx]
    simp only [Zbw, Zao, Za3, Zcd, Zdx, Zae, Zan, Za9, ne_eq, reduceCtorEq, not_false_eq_true, implies_true, Ya2, Yas, Yat, Yak, Yal, Zau, Za4, Za6, Zab, Zag, Zam, Zdc, Int.reduceNeg, Zcz, Za1 (hcv _), e3, Zp7 hi hx]
    refine IH_o (xs.length - (i + 1)) _ (by omega) ⟨i + 1, ⟨by omega, fun j hj => ?_⟩, Zd8 rfl rfl rfl rfl⟩
    by_cases hji : j = i
    · subst hji; rw [hxi]; simpa using fun e => hvx e.symm
    · exact ht j (by omega)
theorem w93 (a : D) (xs : List Int) (v : Int) (ha : Rd a (isE xs)) (hx : xs.length ≤ 1099511627776) (h : List O) : wc 93 [a, .int .i64 v] h = some (.val (.bool (decide (v ∈ xs))), h) := by
  have h95 := w95 a xs v ha hx
  have : decide (0 ≤ ixOf xs v) = decide (v ∈ xs) := by
    unfold ixOf; split <;> rename_i hm <;> simp [hm]
  have hcv : ∀ i, wcv 93 i = [] := fun _ => rfl
  have hres : Try.f93.results.toList = [ResultVar.tmp 4] := rfl
  rw [wc, Zbm rfl Try.func93 rfl]
  simp only [Zbj, Yap, Yaq, Nat.reduceAdd, Nat.reduceSub, Yae, Yaj, Yar, Zai, Zb2, Za3, Zae, Zan, Zbf, Zbg, Za9, Zbq, ne_eq, reduceCtorEq, not_false_eq_true, implies_true, Ya2, Yas, Yat, Yak, Yal, Zau, Za4, Za0, Za6, Za2, Zap, Zab, Zag, Zaq, Zah, Zam, Zax, Zf2, Zeb, Zb3, Zad, Zac, Zal, Zav, Zcq, Zbr, Yaw, Za1 (hcv _), Try.ntmps93, hres, ha.ownD, h95, this]
theorem w89 (a : D) (xs : List Int) (v : Int) (ha : Rd a (isE xs)) (h : List O) : wc 89 [a, .int .i64 v] h = some (.val (.func (.func 92) [] [.ptr h.length 0, .ptr (h.length + 1) 0]), h ++ [.cells [a], .cells [.int .i64 v]]) := by
  have hcv : ∀ i, wcv 89 i = [] := fun _ => rfl
  have hres : Try.f89.results.toList = [ResultVar.tmp 4] := rfl
  rw [wc, Zbm rfl Try.func89 rfl]
  simp only [Zbj, Yap, Yaq, Nat.reduceAdd, Nat.reduceSub, Yae, Yaj, Yar, Zai, Zb2, Za3, Zae, Zan, Za9, ne_eq, reduceCtorEq, not_false_eq_true, implies_true, Ya2, Yas, Yat, Yak, Yal, Zau, Zb5, Zcp, ↓reduceIte, Za0, Zdq, Zel, Za2, Zaf, Zap, Zec, Zdg, Zdi, Zb3, Zad, Zac, Zal, Zav, Option.some.injEq, Prod.mk.injEq, true_and, hlen, Zin, Zc9, Zcl, Yaw, Za1 (hcv _), Try.ntmps89, hres, ha.ownD, ha.cells, ha.notTup]
  rw [Zu8]
  simp [Zrt, Zvy]
theorem bnd_int {k : IntKind} {i : Int} {y : Nat} (h0 : 0 ≤ i) (h1 : i ≤ y) : bnd (.e (.int k i)) y = some i.toNat := by simp [bnd, h0, h1]
theorem slice_of {P : Program} {t e : TypeId} {x : D} {es : List (List E)} {sz l h : Nat} {lo hi : Option D} (hu : P.underlying t = some (.slice e)) (hz : szOf P e = some sz) (hs : slOf x = some es) (hok : Zlm sz es = true) (hp : 0 < sz) (hh : bndO hi es.length es.length = some h) (hl : bndO lo 0 h = some l) :
    Zkv P t x lo hi none = some (.e (.sl ((es.take h).drop l))) := by
  unfold Zkv
  rw [hu]
  cases x with
  | e v => simp [hz, hs, hok, hp, hh, hl]
  | osl ex fu sz' es' => simp [hz, hs, hok, hp, hh, hl]
  | _ => simp [slOf] at hs
theorem ok_isE (xs : List Int) : Zlm 1 (isE xs) = true := by simp [Zlm, isE]
end Go.Abs
namespace Go.Abs
open Go Go.Proofs
set_option maxRecDepth 10000
set_option maxHeartbeats 4000000
def AllG (xs : List Int) (frm : Int) (good : Int → Bool → Bool) : Prop := ∀ (i : Nat) x, xs[i]? = some x → good x (x != frm && !decide (x ∈ xs.take i)) = true
open Classical in
theorem w92 (H H' : List O) (L p1 p2 : Nat) (a : D) (xs : List Int) (frm : Int) (ha : Rd a (isE xs)) (hx : xs.length ≤ 1099511627776) (hc1 : Zbn H p1 = some [a]) (hc2 : Zbn H p2 = some [.int .i64 frm]) (good : Int → Bool → Bool)
    (hr : ∀ n b, call Try.prog wpr wcv (.round L) [.int .i64 n, .bool b] H = some (.val (.bool (good n b)), if good n b then H else H')) (hgc : gc H.length H H' Zaw = H') :
    wc 92 [.func (.yield L) [] [], .ptr p1 0, .ptr p2 0] H = some (.val Zaw, if AllG xs frm good then H else H') := by
  have la := Zws ha
  have hcv : ∀ i, wcv 92 i = [] := fun _ => rfl
  have hres : Try.f92.results.toList = [] := rfl
  rw [wc, Zbm rfl Try.func92 rfl]
  simp only [Zbj, Yap, Yaq, Nat.reduceAdd, Nat.reduceSub, Yae, Yaj, Yar, Zai, Zc5, Za3, Zae, Zan, Zbd, Za9, Yao, Yan, Yau, ne_eq, reduceCtorEq, not_false_eq_true, implies_true, Yav, Ya2, Yas, Yat, Yak, Yal, ↓reduceIte, Zea, Zab, Zam, Zd0, Za8, Zbt, Option.bind_eq_bind, Zaj, Yaw, Option.pure_def, Yab, sz22, ag22, Za1 (hcv _), Try.ntmps92, ha.own, la, hc1]
  refine Zff (fun (n : Nat) (s : St) => ∃ i : Nat, (i + n = xs.length ∧ ∀ j x, j < i → xs[j]? = some x → good x (x != frm && !decide (x ∈ xs.take j)) = true) ∧ ∃ zs_, s = ⟨mkT [some (.func (.yield L) [] []), some (.ptr p1 0), some (.ptr p2 0), none, none, none, some (a), some (.int .i64 xs.length), some (.int .i64 i), none, none, none, none, none, none, none, none, none, none, none, none, none, none, none, none, none, none, none, none] zs_ 0, [], .no, H⟩) ?_ (xs.length) ⟨0, ⟨by omega, fun j x hj => absurd hj (by omega)⟩, Zd8 rfl rfl rfl rfl⟩
  rintro n _ ⟨i, hf_o, zs_o, rfl⟩ IH_o
  obtain ⟨hn, ht⟩ := hf_o
  by_cases hi : i < xs.length
  rotate_left
  · have e2 : decide ((i : Int) < xs.length) = false := by simp; omega
    have hz : AllG xs frm good := fun j x hj => ht j x (by have := (List.getElem?_eq_some_iff.1 hj).1; omega) hj
    simp only [Nat.reduceAdd, Zai, Zfv, Za7, Zao, Za3, Zeq, Zer, Ze2, Zae, Zan, Za9, ne_eq, reduceCtorEq, not_false_eq_true, implies_true, Ya2, Yas, Yat, Yak, Yal, ↓reduceIte, Za6, Zab, Zc6, Zbs, Zfh, Zad, Zac, Zd9, Zcq, Zcx, List.not_mem_nil, false_imp_iff, mkT, Yaw, Za1 (hcv _), hres, e2, hz]
  have e2 : decide ((i : Int) < xs.length) = true := by simp; omega
  have hxi : xs[i]? = some xs[i] := List.getElem?_eq_getElem hi
  generalize xs[i] = x at hxi
  have ia := rd_ix ha hxi
  have hsl : Zkv Try.prog 22 a none (some (.e (.int .i64 (i : Int)))) none = some (.e (.sl (isE (xs.take i)))) := by
    rw [slice_of (h := i) (l := 0) Try.underlying22 sz3 ha.sl (ok_isE xs) (by omega) (by rw [bndO, bnd_int (by omega) (by simp [isE]; omega)]; simp) rfl]
    simp [isE, List.map_take]
  have h93 := w93 (.e (.sl (isE (xs.take i)))) (xs.take i) x Rd.e (by simp; omega)
  have hrr := hr x (x != frm && !decide (x ∈ xs.take i))
  simp only [Yap, Yaq, Nat.reduceAdd, Zai, Zbw, Zc5, Za7, Zak, Za3, Zae, Zan, Zas, Za9, Yao, Yam, Yan, Yau, Nat.reduceLT, ne_eq, reduceCtorEq, not_false_eq_true, implies_true, Yav, Ya2, Yas, Yat, Yak, Yal, Zau, Zcp, Zb7, ↓reduceIte, Za4, Za0, Za6, Zbo, Za2, Zaf, Zab, Zem, Zc6, Zdm, Zbs, Option.some.injEq, mkT, Za8, Ze3, Zbt, Zj0, Zaj, Yaw, Yab, sz3, ag3, Za1 (hcv _), e2, ha.ownD, ia, hc2]
  generalize hbv : (x != frm && !decide (x ∈ xs.take i)) = bv at hrr
  have hstep : good x bv = true → ∀ (j : Nat) y, j < i + 1 → xs[j]? = some y → good y (y != frm && !decide (y ∈ xs.take j)) = true := by
    intro hg j y hj hy
    by_cases hji : j = i
    · subst hji; rw [hxi] at hy; cases hy; rw [hbv]; exact hg
    · exact ht j y (by omega) hy
  have hbad : good x bv = false → ¬ AllG xs frm good := by
    intro hg hall
    have := hall i x hxi
    rw [hbv, hg] at this; cases this
  cases hxf : (x != frm)
  · rw [hxf, Yb1] at hbv
    subst hbv
    simp only [Yap, Yaq, Nat.reduceAdd, Zan, Zas, Za9, Ze8, St.put, Yao, Yam, Yan, Yau, Nat.reduceLT, ne_eq, reduceCtorEq, not_false_eq_true, implies_true, Yb2, Yav, Ya2, Yas, Yat, Yak, Yal, ↓reduceIte, Zat, Zbh, Zab, Zax, Option.some.injEq, Yaw]
    rw [ko_yield rfl rfl]
    cases hg : good x false
    · rw [hg] at hrr
      simp only [Zb2, Za7, Zak, Za3, Zc0, Zd3, Zgh, Zae, Zan, Za9, Zbq, ne_eq, reduceCtorEq, not_false_eq_true, implies_true, Ybg, Yav, Ya2, Yas, Yat, Yak, Yal, ↓reduceIte, Ze0, Zab, Zf4, Zb3, Zad, Zac, Zd9, hres, hrr, hbad hg, hgc]
    · rw [hg] at hrr
      simp only [Zbw, Za7, Zao, Za3, Zcd, Zdx, Zae, Zan, Za9, Zbq, ne_eq, reduceCtorEq, not_false_eq_true, implies_true, Yb2, Ya2, Yas, Yat, Yak, Yal, Zau, ↓reduceIte, Za4, Za6, Ze0, Zab, Zag, Zam, Zdc, Zcz, Zf4, Za1 (hcv _), hrr, Zp7 hi hx]
      refine IH_o (xs.length - (i + 1)) _ (by omega) ⟨i + 1, ⟨by omega, hstep hg⟩, Zd8 rfl rfl rfl rfl⟩
  · rw [hxf, Bool.true_and] at hbv
    simp only [Yap, Yaq, Nat.reduceAdd, Zan, Zbf, Zbg, Zas, Za9, Zbq, Zch, Yao, Yam, Yan, Yau, Nat.reduceLT, ne_eq, reduceCtorEq, not_false_eq_true, implies_true, Yav, Ya2, Yas, Yat, Yak, Yal, Zau, ↓reduceIte, Za4, Ze0, Zat, Zgt, Za2, Zaf, Zab, Zaq, Zah, Zgr, Zgq, Zf4, Option.some.injEq, Za8, Zbt, Zaj, Yaw, Yab, sz22, ag22, hc1, ha.own, ha.ownD, hsl, h93, hbv]
    rw [ko_yield rfl rfl]
    cases hg : good x bv
    · rw [hg] at hrr
      simp only [Zb2, Za7, Zak, Za3, Zc0, Zd3, Zgh, Zae, Zan, Za9, Zbq, ne_eq, reduceCtorEq, not_false_eq_true, implies_true, Ybg, Yav, Ya2, Yas, Yat, Yak, Yal, ↓reduceIte, Ze0, Zab, Zf4, Zb3, Zad, Zac, Zd9, hres, hrr, hbad hg, hgc]
    · rw [hg] at hrr
      simp only [Zbw, Za7, Zao, Za3, Zcd, Zdx, Zae, Zan, Za9, Zbq, ne_eq, reduceCtorEq, not_false_eq_true, implies_true, Yb2, Ya2, Yas, Yat, Yak, Yal, Zau, ↓reduceIte, Za4, Za6, Ze0, Zab, Zag, Zam, Zdc, Zcz, Zf4, Za1 (hcv _), hrr, Zp7 hi hx]
      refine IH_o (xs.length - (i + 1)) _ (by omega) ⟨i + 1, ⟨by omega, hstep hg⟩, Zd8 rfl rfl rfl rfl⟩
end Go.Abs
namespace Go.Abs
open Go Go.Proofs
set_option maxRecDepth 10000
set_option maxHeartbeats 4000000
def Zsx (n : Int) (b : Bool) : Bool := b && Zfc n
def Zrb (H : List O) (L : Nat) : List O := match H[L]? with
  | some (.loop _ _ f env ps asg body) => H.set L (.loop .done (some .ret) f env ps asg body)
  | _ => H
theorem Zn7 {P : Program} {pr : FuncId → List D → Option D} {cv : FuncId → Nat → List Cv} {β : Type} {k : X × St → Option β} {s : St} {c v : Option (Out × List O)} {r : Option β} (hc : c = v) (h : kRng s k v = r) : kRng s k c = r := hc ▸ h
theorem all78 (xs : List Int) (frm : Int) : AllG xs frm Zsx ↔ ListN xs frm xs.length := by
  constructor
  · intro hall j x hj hx
    have := hall j x hx
    simp only [Zsx, Bool.and_eq_true, bne_iff_ne, ne_eq, Bool.not_eq_true', decide_eq_false_iff_not] at this
    refine ⟨this.2, this.1.1, fun k y hk hy e => this.1.2 ?_⟩
    subst e
    exact List.mem_of_getElem? (i := k) (by rw [List.getElem?_take_of_lt hk]; exact hy)
  · intro hl i x hx
    obtain ⟨h1, h2, h3⟩ := hl i x (List.getElem?_eq_some_iff.1 hx).1 hx
    simp only [Zsx, Bool.and_eq_true, bne_iff_ne, ne_eq, Bool.not_eq_true', decide_eq_false_iff_not]
    refine ⟨⟨h2, fun hm => ?_⟩, h1⟩
    obtain ⟨k, hk⟩ := List.mem_iff_getElem?.1 hm
    have hki : k < i := by
      have := (List.getElem?_eq_some_iff.1 hk).1
      simp at this; omega
    rw [List.getElem?_take_of_lt hki] at hk
    exact h3 k x hki hk rfl
open Classical in
theorem w92b (H : List O) (L p1 p2 i0 : Nat) (a : D) (xs : List Int) (frm : Int) (ha : Rd a (isE xs)) (hx : xs.length ≤ 1099511627776) (hc1 : Zbn H p1 = some [a]) (hc2 : Zbn H p2 = some [.int .i64 frm]) (good : Int → Bool → Bool)
    (hr : ∀ n b, call Try.prog wpr wcv (.round L) [.int .i64 n, .bool b] H = some (.val (.bool (good n b)), if good n b then H else Zrb (H.set i0 (.cells [.bool false])) L)) (hgc : gc H.length H (Zrb (H.set i0 (.cells [.bool false])) L) Zaw = Zrb (H.set i0 (.cells [.bool false])) L) :
    call Try.prog wpr wcv (.fn 92) [.func (.yield L) [] [], .ptr p1 0, .ptr p2 0] H = some (.val Zaw, if AllG xs frm good then H else Zrb (H.set i0 (.cells [.bool false])) L) := w92 H _ L p1 p2 a xs frm ha hx hc1 hc2 good hr hgc
theorem Zxm {H : List O} {L : Nat} {st : LoopState} {pd : Option Code} {f : FuncId} {env : List D} {ps : List Tmp} {asg body : Code} (hl : H[L]? = some (.loop st pd f env ps asg body)) : Zrb H L = H.set L (.loop .done (some .ret) f env ps asg body) := by simp [Zrb, hl]
theorem doneAt_len {H : List O} {L : Nat} : (Zrb H L).length = H.length := by unfold Zrb; split <;> simp
theorem Ze6 {n : Nat} {h h' : List O} {d : D} (hl : h'.length = n) : gc n h h' d = h' := by
  unfold gc; split
  · exact List.take_of_length_le (by omega)
  · rfl
section
variable {β : Type} {k : X × St → Option β} {tl : List D} {df : List (FuncId × List D)} {r : Rc} {h h' : List O}
theorem Zkl {n : Nat} {d : D} {st : LoopState} {f : FuncId} {env : List D} {ps : List Tmp} {asg body : Code} (hn : h.length = n) (hl : h'[n]? = some (.loop st none f env ps asg body)) (hs : st ≠ .busy) :
    kRng ⟨tl, df, r, h⟩ k (some (.val d, h')) = k (.nrm, ⟨tl.map kep, df, r, gc n h (h'.set n .dead) Zaw⟩) := by subst hn; exact kRng_nrm hl hs
theorem kRng_ret' {n : Nat} {d : D} {st : LoopState} {f : FuncId} {env : List D} {ps : List Tmp} {asg body : Code} (hn : h.length = n) (hl : h'[n]? = some (.loop st (some .ret) f env ps asg body)) (hs : st ≠ .busy) :
    kRng ⟨tl, df, r, h⟩ k (some (.val d, h')) = k (.ret, ⟨tl.map kep, df, r, gc n h (h'.set n .dead) Zaw⟩) := by subst hn; exact kRng_ret hl hs
end
def FrontO (n : Nat) : List O → List O → Prop
  | [], _ => True
  | a :: l, b :: lx => (b = a ∨ FitO n b) ∧ FrontO n l lx
  | _ :: _, [] => False
theorem frontO_len {n : Nat} {l lx : List O} (h : FrontO n l lx) : l.length ≤ lx.length := by
  induction l generalizing lx with
  | nil => simp
  | cons a l ih =>
    cases lx with
    | nil => exact h.elim
    | cons b lx => have := ih h.2; simp; omega
theorem frontO_get {n : Nat} {l lx : List O} (h : FrontO n l lx) {j : Nat} {o o' : O} (h1 : l[j]? = some o) (h2 : lx[j]? = some o') : o' = o ∨ FitO n o' := by
  induction l generalizing lx j with
  | nil => simp at h1
  | cons a l ih =>
    cases lx with
    | nil => exact h.elim
    | cons b lx =>
      cases j with
      | zero => simp at h1 h2; subst h1; subst h2; exact h.1
      | succ j => exact ih h.2 (by simpa using h1) (by simpa using h2)
theorem Zn9 {n : Nat} {h l lx : List O} {d : D} (hn : n = h.length + l.length) (hf : Fit n d) (hk : FrontO n l lx) : gc n (h ++ l) (h ++ lx) d = h ++ lx.take l.length := by
  have hle := frontO_len hk
  have hkeep : Keeps n (h ++ l) (h ++ lx) := by
    refine ⟨by simp; omega, fun i hi o o' h1 h2 => ?_⟩
    by_cases hih : i < h.length
    · rw [List.getElem?_append_left hih] at h1 h2
      rw [h1] at h2; cases h2; exact .inl (.refl _)
    · rw [List.getElem?_append_right (by omega)] at h1 h2
      rcases frontO_get hk h1 h2 with h4 | h4
      · subst h4; exact .inl (.refl _)
      · exact .inr h4
  unfold gc
  rw [if_pos ⟨hf, hkeep⟩, hn, List.take_append, List.take_of_length_le (by omega)]
  congr 2
  omega
theorem Zif : shrT Zaw = Zaw := rfl
theorem shrT_e {x : E} : shrT (.e x) = .e x := rfl
theorem Zl1 {i o : Nat} : shrT (.ptr i o) = .ptr i o := rfl
theorem Zjl {f : Fn} {a b : List D} : shrT (.func f a b) = .func f a b := rfl
theorem Znm {d : D} {es : List (List E)} (h : Rd d es) : shrT d = d := by
  have h1 := h.own
  have h2 := h.sl
  cases d with
  | osl ex fu sz es' => cases ex <;> cases fu <;> simp_all [own0, shrT, shr, shr0]
  | _ => simp_all [slOf, shrT, shr, shr0]
theorem Zj1 : kep Zaw = Zaw := rfl
theorem kep_e {x : E} : kep (.e x) = .e x := rfl
theorem Zmb {i o : Nat} : kep (.ptr i o) = .ptr i o := rfl
theorem Zkd {f : Fn} {a b : List D} : kep (.func f a b) = .func f a b := rfl
theorem Zqb {d : D} {es : List (List E)} (h : Rd d es) : kep d = d := by
  have h1 := h.own
  have h2 := h.sl
  cases d with
  | osl ex fu sz es' => cases ex <;> cases fu <;> simp_all [own0, kep, kep0]
  | _ => simp_all [slOf, kep, kep0]
open Classical in
theorem w78 (a : D) (xs : List Int) (frm : Int) (ha : Rd a (isE xs)) (hx : xs.length ≤ 1099511627776) (h : List O) : wc 78 [a, .int .i64 frm] h = some (.val (.bool (Znj xs frm)), h) := by
  have la := Zws ha
  have h89 := w89 a xs frm ha
  have hcv : ∀ i, wcv 78 i = [] := fun _ => rfl
  have hres : Try.f78.results.toList = [ResultVar.cell 4 4] := rfl
  rw [wc, Zbm rfl Try.func78 rfl]
  simp only [Zbj, Yap, Yaq, Nat.reduceAdd, Nat.reduceSub, Yae, Yaj, Yar, Zai, Zc5, Za3, Zae, Zan, Zbf, Zbg, Za9, Zbq, ne_eq, reduceCtorEq, not_false_eq_true, implies_true, Yas, Yat, Yak, Yal, Zau, ↓reduceIte, Za4, Zd4, Za2, Zaq, Zah, hlen, Zc9, Zcl, Yaw, Za1 (hcv _), Try.ntmps78, ha.ownD, zo4, h89]
  rw [Zl7 rfl rfl rfl]
  simp only [Yap, Yaq, Nat.reduceAdd, Yaj, Yar, hlen, Ybi, Yba, Yaw, List.append_assoc, Nat.add_assoc, Zif, shrT_e, Zl1, Zjl, Znm ha]
  refine Zn7 (P := Try.prog) (pr := wpr) (cv := wcv) (w92b _ _ _ _ h.length a xs frm ha hx (by simp [Zbn]) (by simp [Zbn]) Zsx ?_ ?_) ?_
  · intro n b
    refine (Zit (hgetn.trans rfl) rfl).trans ?_
    simp only [Zai, Za3, Zae, Zan, Za9, ne_eq, reduceCtorEq, not_false_eq_true, implies_true, Ya2, Yas, Yat, Yak, Yal, Zau, Za0, Za2, List.foldl_nil, Zet, Za1 (hcv _), List.zip_cons_cons, List.zip_nil_right, List.foldl_cons]
    rw [Zjr (hgetn.trans rfl), Zxm (hgetn.trans rfl)]
    cases b
    · simp only [Yap, Yaq, Nat.reduceAdd, Yar, Zai, Zb2, Zc5, Za7, Zak, Za3, Zd3, Zae, Zan, Zas, Za9, Zcf, Ze8, St.put, Yao, Yam, Yan, Yau, Nat.reduceLT, ne_eq, reduceCtorEq, not_false_eq_true, implies_true, Ybg, Yav, Ya2, Yas, Yat, Yak, Yal, Zau, ↓reduceIte, Za4, Ze0, Zat, Zbb, Zap, Zbh, Zab, Zax, Zf4, and_self, Option.some.injEq, List.append_nil, Zar, Zbk, Zet, Zdh, Za8, Zb1, Zc9, Zcl, Zco, Ybd, List.drop_succ_cons, Yb8, Yb1, Yaw, Yab, sz4, Za1 (hcv _), Zsx]
      rw [rout_ret (hgetn.trans rfl)]
      simp only [Yas, Yat, Zdh]
    · simp only [Yap, Yaq, Nat.reduceAdd, Zai, Zc5, Za7, Za3, Zae, Zan, Zbf, Zbg, Zas, Za9, Zbq, Zch, Yao, Yam, Yan, Yau, Nat.reduceLT, ne_eq, reduceCtorEq, not_false_eq_true, implies_true, Yb2, Yav, Ya2, Yas, Yat, Yak, Yal, Zau, ↓reduceIte, Za4, Ze0, Zat, Za2, Zaf, Zab, Zaq, Zah, Zf4, Option.some.injEq, Zdh, Bool.true_and, Yaw, Za1 (hcv _), Zsx, w42]
      cases hp : Zfc n
      · simp only [Yap, Yaq, Yar, Zai, Zb2, Zak, Za3, Zd3, Zae, Zan, Zcf, Yau, ne_eq, reduceCtorEq, not_false_eq_true, implies_true, Ybg, Yav, Ya2, Yak, Yal, ↓reduceIte, Zbb, Zap, Zab, Zax, and_self, List.append_nil, Zar, Zbk, Zet, Za8, Zb1, Zc9, Zcl, Zco, Ybd, List.drop_succ_cons, Yb8, Yaw, Yab, sz4, Za1 (hcv _)]
        rw [rout_ret (hgetn.trans rfl)]
        simp only [Yas, Yat, Zdh]
      · simp only [Zbw, Zao, Zcd, Yb2, ↓reduceIte]
        rw [Zk8 (hgetn.trans rfl)]
        simp only [Yas, Yat, Zdh]
  · exact Ze6 (by rw [doneAt_len, List.length_set])
  · by_cases hall : AllG xs frm Zsx
    · rw [if_pos hall, Zkl (n := h.length + 3) (by simp) (hgetn.trans rfl) (by simp)]
      simp only [Zai, Za3, Zcd, Zan, ne_eq, reduceCtorEq, not_false_eq_true, implies_true, Yas, Yat, Zdh, Ybi, Yba, Za1 (hcv _)]
      rw [Zn9 (n := h.length + 3) (h := h) (l := [_, _, _]) rfl (.tup [] (by simp)) ?_]
      rotate_left
      · exact ⟨.inl rfl, .inl rfl, .inl rfl, trivial⟩
      have hz : Znj xs frm = decide ((xs.length : Int) ≤ 3) := by simp [Znj, (all78 xs frm).1 hall]
      simp only [Yap, Yaq, Nat.reduceAdd, Yar, Zb2, Za3, Zae, Zan, Zbd, Za9, Zcf, Yao, Yan, Yau, ne_eq, reduceCtorEq, not_false_eq_true, implies_true, Yav, Ya2, Yas, Yat, Yak, Yal, Zau, Zb7, ↓reduceIte, Za4, Za6, Zbb, Za2, Zab, Zag, Zam, Zfx, Zf0, Zd0, Zb3, Zad, Zac, Zde, Zav, Zbr, and_self, List.append_nil, Zar, Zbk, Zet, Za8, Zb1, Zc9, Zcl, Zbt, Zco, Zb4, Ybc, Ybd, List.drop_succ_cons, Yb8, Option.bind_eq_bind, Yaw, Option.pure_def, Yab, sz4, ag4, hres, Zj1, kep_e, Zmb, Zkd, Zqb ha, ha.ownD, la, hz]
    · rw [if_neg hall, Zet, Zxm (hgetn.trans rfl), kRng_ret' (n := h.length + 3) (by simp) (by rw [Zdh]; exact hgetn.trans rfl) (by simp)]
      simp only [Zc0, Zd3, Yas, Yat, Yak, Yal, Zb3, Zad, Zac, Zde, Zdh, Ybi, Yba, hres]
      rw [Zn9 (n := h.length + 3) (h := h) (l := [_, _, _]) rfl (.tup [] (by simp)) ?_]
      rotate_left
      · exact ⟨.inr (.cells _ (by simp [Zbr])), .inl rfl, .inl rfl, trivial⟩
      have hz : Znj xs frm = false := by simp only [Znj, Bool.and_eq_false_iff, decide_eq_false_iff_not]; exact .inl fun hl => hall ((all78 xs frm).2 hl)
      simp only [Yap, Yaq, Nat.reduceAdd, Yan, Yav, Zb7, ↓reduceIte, Zav, Zbr, Zar, Zbk, Za8, Zbt, Zb4, Ybc, Ybd, Yaw, Yab, sz4, ag4, Zj1, kep_e, Zmb, Zkd, Zqb ha, hz]
end Go.Abs
