/-
  WIRE: a deferred call. WIRE: Read, what has no more than a head. WIRE: Read, what has no more than a head. WIRE: what is put is taken, number by number. WIRE: one datagram, one payload. WIRE: Take; a ping. No condition.
-/
import Derived.Test.YtkimilghfbgjmaaP22
import Derived.Test.YtkimilghfbgjmaaP19

namespace Go.Abs
open Go Go.Proofs
set_option maxRecDepth 10000
set_option maxHeartbeats 4000000

section
variable {P : Program} {pr : FuncId → List D → Option D} {cv : FuncId → Nat → List Cv} {β : Type} {fn : Func} {h h' : List O} {tl : List D} {df : List (FuncId × List D)} {r : Rc} {g f : FuncId} {args : List D} {d : D} {s : St} {l : List Oper} {dst : Option Tmp} {ty : TypeId} {pos : String} {af : Array Edge} {gu : Option (Nat × Bool)}
theorem exO_defer {fo : Operand} {xs : Array Operand} {ats : Array TypeId} : exOp P l ⟨dst, .defer { callee := .value fo, args := xs, argTypes := ats }, ty, pos, af, gu⟩ s = match s.r with
      | .rnd _ => none
      | _ => match rd s fo, shs s xs.toList with
        | some (.func (.func g) first cap), some (ds, s1) => if (first ++ cap).any ownD then none else some (.val Zav, { s1 with d := (g, first ++ ds ++ cap) :: s1.d })
        | _, _ => none := rfl
theorem exO_ta {x : Operand} {t0 t : TypeId} {ok : Bool} : exOp P l ⟨dst, .typeAssert x t0 t ok, ty, pos, af, gu⟩ s = match rd s x, P.underlying t with
    | some d, some u => if isIface u then none else
      match d with
        | .e (.iface t' v) => if t' = t then some (.val (if ok then .tup [.e v, .bool true] else .e v), s)
          else if ok then (Zgs P t).map fun z => (.val (.tup [z, .bool false]), s) else none
        | .e .nilif => if ok then (Zgs P t).map fun z => (.val (.tup [z, .bool false]), s) else none
        | _ => none
    | _, _ => none := rfl
noncomputable def kU (P : Program) (fn : Func) (h : List O) (tl : List D) (u : Option D) (r : Option (Out × List O)) : Option (Out × List O) :=
  match r with
  | some (.val _, h2) => leave P fn h u tl h2
  | some (.rcv _, h2) => leave P fn h none tl h2
  | _ => none
theorem undo_one {u : Option D} : (undo P pr cv [(g, args)] u h').bind (fun q => leave P fn h q.1 tl q.2) = kU P fn h tl u (call P pr cv (.dfn g u) args h') := by
  rw [undo]
  cases hc : call P pr cv (.dfn g u) args h' with
  | none => rfl
  | some q =>
    obtain ⟨o, h2⟩ := q
    cases o <;> simp [kU, undo_nil]
theorem kF_ret1 : kF P pr cv fn h (.ret, ⟨tl, [(g, args)], r, h'⟩) = kU P fn h tl none (call P pr cv (.dfn g none) args h') := undo_one
theorem kF_pan1 : kF P pr cv fn h (.pan d, ⟨tl, [(g, args)], r, h'⟩) = kU P fn h tl (some d) (call P pr cv (.dfn g (some d)) args h') := undo_one
theorem kU_val {u : Option D} {d' : D} : kU P fn h tl u (some (.val d', h')) = leave P fn h u tl h' := rfl
theorem kU_rcv {u : Option D} {d' : D} : kU P fn h tl u (some (.rcv d', h')) = leave P fn h none tl h' := rfl
def rcU : Option D → Rc
  | some d => .avail d
  | none => .nil
theorem call_dfn {u : Option D} {c : Code} (h1 : P.funcs[f]? = some fn) (h2 : bodyOf fn = some c) (h3 : fn.results.isEmpty = true) :
    call P pr cv (.dfn f u) args h = kx P pr cv f c { t := Zbi fn args, d := [], r := rcU u, h := h } dfnOut := by
  rw [call.eq_def]; simp only [h1, h2, h3, if_true]
  cases u <;> rfl
theorem dfn_nil : dfnOut (.nrm, ⟨tl, [], .nil, h⟩) = some (.val Zav, h) := rfl
theorem dfn_took : dfnOut (.nrm, ⟨tl, [], .took, h⟩) = some (.rcv Zav, h) := rfl
theorem exB_rec_nil {ats : Array TypeId} : Zfs P .recover ats [] ⟨tl, df, .nil, h⟩ = some (.val (.e .nilif), ⟨tl, df, .nil, h⟩) := rfl
theorem exB_rec_av {ats : Array TypeId} : Zfs P .recover ats [] ⟨tl, df, .avail d, h⟩ = some (.val d, ⟨tl, df, .took, h⟩) := rfl
theorem binI_nil {t : TypeId} {ms : Array (String × TypeId)} (hu : P.underlying t = some (.interface ms)) : binD P .neq t (.e .nilif) (.e .nilif) true = some (.e (.bool false)) := by simp [binD, nilCmp, hu]
theorem binI_some {t t' : TypeId} {x : E} {ms : Array (String × TypeId)} (hu : P.underlying t = some (.interface ms)) : binD P .neq t (.e (.iface t' x)) (.e .nilif) true = some (.e (.bool true)) := by simp [binD, nilCmp, hu]
end

def msg0 : Msg := { kind := 0, call := 0, frm := 0, to := 0, key := 0, slow := false, done := false, place := 0, pred := 0, list := [], ikey := { data := #[] }, ival := 0, iver := 0, gone := false, code := 0 }
theorem build27_nil : buildD Try.prog 27 [] = some (.agg (msg0.cs (.osl false true 0 []))) := by
  simp [buildD, zo27, Try.underlying27, fillD, sz3, sz4, sz5, sz22, sz24, sz25, Msg.cs, msg0]

theorem w30_no (a b : Nat) (H : List O) : call Try.prog wpr wcv (.dfn 30 none) [.ptr a 0, .ptr b 0] H = some (.val Zav, H) := by
  have hcv : ∀ i, wcv 30 i = [] := fun _ => rfl
  have hres : Try.f30.results.toList = [] := rfl
  rw [call_dfn Try.func30 rfl rfl]
  simp only [Zbi, List.length_cons, List.length_nil, Nat.reduceAdd, Nat.reduceSub, List.replicate, List.cons_append, List.nil_append, Zaj, Zbz, Za7, Zar, Za3, Zae, Zao, Zbb, Za9, ne_eq, reduceCtorEq, not_false_eq_true, implies_true, Option.map_some, List.set_cons_succ, List.set_cons_zero, List.getD_cons_succ, List.getD_cons_zero, Zau, Za2, Za0, Za6, Za4, Zac, Zai, Zj4, Nat.zero_add, Za1 (hcv _), Try.ntmps30, rcU, exB_rec_nil, Zcu, binI_nil Try.underlying20, dfn_nil]
theorem w30 (h ex : List O) (cM : List D) (e0 : D) (hM : cM.length = 15) : call Try.prog wpr wcv (.dfn 30 (some ferr)) [.ptr h.length 0, .ptr (h.length + 1) 0] (h ++ .cells cM :: .cells [e0] :: ex) =
    some (.rcv Zav, h ++ .cells (msg0.cs (.osl false true 0 [])) :: .cells [.int .i64 12] :: ex) := by
  have e1 := build27_nil
  simp only [Msg.cs] at e1
  have hM2 : (15 ≤ cM.length) := by omega
  have hM3 : List.drop 15 cM = [] := List.drop_of_length_le (by omega)
  have hcv : ∀ i, wcv 30 i = [] := fun _ => rfl
  have hres : Try.f30.results.toList = [] := rfl
  rw [call_dfn Try.func30 rfl rfl]
  simp only [Zbi, List.length_cons, List.length_nil, Nat.reduceAdd, Nat.reduceSub, List.replicate, List.cons_append, List.nil_append, Zaj, Za7, Zal, Za3, Zae, Zao, Zbb, Za9, ne_eq, reduceCtorEq, not_false_eq_true, implies_true, Option.map_some, List.set_cons_succ, List.set_cons_zero, List.getD_cons_succ, List.getD_cons_zero, Zau, Za2, Za0, Za6, Za4, Zac, Zai, Zj4, Nat.zero_add, Za1 (hcv _), Try.ntmps30, rcU, ferr, exB_rec_av, Zcu, binI_some Try.underlying20]
  refine (Zf8 (l := plan30_2) (by exact plan30_2_eq)).trans ?_
  simp only [List.length_cons, List.length_nil, Nat.reduceAdd, List.nil_append, List.getElem?_toArray, List.getElem?_cons_succ, List.getElem?_cons_zero, Option.bind_some, ne_eq, reduceCtorEq, not_false_eq_true, implies_true, Bool.not_false, Bool.false_eq_true, Option.map_some, List.set_cons_succ, List.set_cons_zero, List.getD_cons_succ, List.getD_cons_zero, Zau, Zbo, List.any_cons, List.any_nil, Zb3, Zds, ↓reduceIte, Zdv, Zbc, Za4, Zac, Zaw, and_self, List.toList_toArray, Ze5, kd_l, Zc5, Zc4, Zch, Zbn, Zc6, Zba, Zdg, Zcs, Zbx, Zbw, lo_build, Zgy, Op.operands, Ze2, List.foldl_nil, List.append_nil, Zas, Zbh, Zbg, Zcz, Zeu, Ze4, Zad, Zb4, Zb1, Zc9, Zb9, Zco, Zcq, List.take_zero, List.drop_succ_cons, List.drop_zero, List.map_nil, Bool.or_self, Nat.zero_add, Nat.le_refl, Try.underlying25, sz25, sz27, hcv, kd_h, Zca, Zex, Zh2, Zcb, Zcc, excD_e, List.all_cons, List.all_nil, Bool.and_self, plan30_2, e1, List.zip_nil_right, exO_ta, isIface, Msg.cs, hM3, hM, dfn_took]

end Go.Abs

namespace Go.Abs
open Go Go.Proofs
set_option maxRecDepth 10000
set_option maxHeartbeats 4000000

theorem ix59 {k i : Nat} (h : i < 4) : Zdr Try.prog 59 (.ptr k 0) (.e (.int .i64 (i : Int))) = some (.ptr k i) := by
  unfold Zdr
  rw [Try.underlying59]
  simp only [sz3, adOf]
  rw [if_pos ⟨by omega, by omega, by omega⟩]
  simp [adD, Ad.add]
theorem ix59_0 {k : Nat} : Zdr Try.prog 59 (.ptr k 0) (.e (.int .i64 0)) = some (.ptr k 0) := ix59 (i := 0) (by omega)
theorem ix59_1 {k : Nat} : Zdr Try.prog 59 (.ptr k 0) (.e (.int .i64 1)) = some (.ptr k 1) := ix59 (i := 1) (by omega)
theorem ix59_2 {k : Nat} : Zdr Try.prog 59 (.ptr k 0) (.e (.int .i64 2)) = some (.ptr k 2) := ix59 (i := 2) (by omega)
theorem ix59_3 {k : Nat} : Zdr Try.prog 59 (.ptr k 0) (.e (.int .i64 3)) = some (.ptr k 3) := ix59 (i := 3) (by omega)
theorem put_set {hs : List D} {i : Nat} {d : D} (h : i < hs.length) : List.take i hs ++ [d] ++ List.drop (i + 1) hs = hs.set i d := by
  rw [List.set_eq_take_append_cons_drop, if_pos h]; simp
theorem build58 {d : D} (h1 : cellsOf d = [d]) (h2 : notTup d = true) : buildD Try.prog 58 [(0, d)] = some (.agg [d]) := by
  simp only [buildD, zo58, Try.underlying58]
  simp [sz31, fillD, h1, h2, Zeq]
def Zgd (n0 n1 n2 n3 : Nat) : Msg := { kind := n0, call := n1, frm := n2, to := n3, key := 0, slow := false, done := false, place := 0, pred := 0, list := [], ikey := { data := #[] }, ival := 0, iver := 0, gone := false, code := 0 }

theorem leftT_agg {cs : List D} : leftT (.agg cs) = .agg (cs.map Zgq) := rfl
theorem shrT_hdr {n : Nat} : shrT (.hdr n) = .hdr n := rfl
theorem shrT_agg {cs : List D} : shrT (.agg cs) = .agg (cs.map shr0) := rfl
theorem kep_hdr {n : Nat} : kep (.hdr n) = .hdr n := rfl
theorem kep_agg {cs : List D} : kep (.agg cs) = .agg (cs.map kep0) := rfl
theorem shr0_hdr {n : Nat} : shr0 (.hdr n) = .hdr n := rfl
theorem kep0_hdr {n : Nat} : kep0 (.hdr n) = .hdr n := rfl

/-- Numbers that are shared. -/
def lsD (l : List Nat) : D := match l with
  | [] => .osl false true 0 []
  | n :: l => .e (.sl (isE (Zip (n :: l))))
theorem lsD_rd (l : List Nat) : Rd (lsD l) (isE (Zip l)) := by cases l <;> first | exact Rd.osl | exact Rd.e
/-- Numbers that one had. -/
def lrD (l : List Nat) : D := match l with
  | [] => .osl false true 0 []
  | n :: l => .osl false false 1 (isE (Zip (n :: l)))
theorem kep0_e {x : E} : kep0 (.e x) = .e x := rfl
/-- The code from a region on. -/
def fromR (n : Nat) : Code → Option Code
  | .seq (.region i a b) r => if i = n then some (.seq (.region i a b) r) else fromR n r
  | .seq a r => (fromR n a).or (fromR n r)
  | _ => none
noncomputable def tl17 : Option Code := Try.f17.body.bind (fromR 13)

theorem w17_tail (zs : List D) (m : Msg) (ns : List Nat) (l5 : List UInt8) (h ex : List O) (c : Code) (hc : tl17 = some c) (hm : m.list = Zip ns) (hx5 : l5.length ≤ 100000) (hn : ns.length ≤ 1000) :
    kx Try.prog wpr wcv 17 c ⟨mkT [none, none, some (.ptr h.length 0), some (.ptr (h.length + 1) 0), some (.ptr (h.length + 2) 0), none, none, none, none, none, none, none, none, none, none, none, none, none, none, none, none, none, none, none, none, none, none, none, none, none, none, none, none, none, none, none, none, none, none, none, none, none, none, none, none, none, none, none, none, none, none, none, none, none, none, none] zs 0, [(30, [.ptr h.length 0, .ptr (h.length + 1) 0])], .no, h ++ .cells (m.cs (slN ns)) :: .cells [.int .i64 0] :: .cells [rdC l5] :: ex⟩ (kF Try.prog wpr wcv Try.f17 h) =
      some (.val (if l5 = [] ∧ m.right = true then .tup [.agg (m.cs (lrD ns)), .int .i64 0] else .tup [.agg (msg0.cs (.osl false true 0 [])), .int .i64 12]), h) := by
  have h25 := w25 m (lsD ns) (by rw [hm]; exact lsD_rd ns) (by rw [hm]; simp [Zip]; omega)
  have h33t := w33 true
  have h33f := w33 false
  obtain rfl := Option.some.inj ((rfl : tl17 = some _).symm.trans hc)
  have l0 : ∀ H, len0 Try.prog 31 (.e (.sl (byE l5))) H = some l5.length := fun H => by rw [len31e]; simp [byE]
  have hcv : ∀ i, wcv 17 i = [] := fun _ => rfl
  have hres : Try.f17.results.toList = [ResultVar.cell 2 27, ResultVar.cell 3 25] := rfl
  cases l5 with
  | cons b l5 =>
    have e1 : (((l5.length + 1 : Nat) : Int) == 0) = false := by simp; omega
    have e2 : (b :: l5 = []) = False := by simp
    have h30 := w30 h (.cells [rdX (b :: l5)] :: ex) (m.cs (slN ns)) (.int .i64 0) rfl
    simp only [ferr, rdX] at h30
    simp only [List.length_cons] at l0
    simp only [Msg.cs, msg0] at h30
    simp only [List.length_cons, List.length_nil, Nat.reduceAdd, List.nil_append, Zaj, kSeq_pan, Zao, Zbb, Zbe, Zbf, Zak, Za9, kC_pan, Zdl, St.put, List.getElem?_toArray, List.getElem?_cons_succ, List.getElem?_cons_zero, Option.bind_some, Nat.reduceLT, ne_eq, reduceCtorEq, not_false_eq_true, implies_true, Bool.not_true, Bool.false_eq_true, Option.map_some, List.set_cons_succ, List.set_cons_zero, List.getD_cons_succ, List.getD_cons_zero, Zau, Zbk, List.any_cons, List.any_nil, Zb3, Zds, ↓reduceIte, Za6, Zam, Zbd, Za5, Za4, Zaf, Zb7, Zac, Zai, Zaw, Zap, Zan, Zax, Zb8, Zay, Zd0, Zab, Zaa, Zdy, Zd6, Zbm, Zcx, Zcw, Zg6, List.forall_mem_cons, List.not_mem_nil, false_imp_iff, and_self, Option.some.injEq, Zfx, mkT, List.append_nil, Zas, Zbh, Zbg, Zcz, Ze4, Zad, Zb6, Zb5, Zb4, Zbs, Zb2, List.take_succ_cons, List.take_zero, List.drop_succ_cons, List.drop_zero, Za8, Option.bind_eq_bind, Zag, Bool.or_self, Nat.add_zero, Nat.zero_add, Nat.succ_ne_zero, Option.pure_def, Nat.le_refl, sz25, sz27, sz31, ag25, ag27, ag31, Za1 (hcv _), hres, st58, rdC, l0, e1, e2, h33f, kF_pan1, h30, kU_rcv, back, Zcp, taken, Zbj, Zdo, Zfn, kep0_osl, Msg.cs, msg0, false_and]
  | nil =>
    have e1 : (((0 : Nat) : Int) == 0) = true := by decide
    simp only [List.length_nil] at l0
    cases hr : m.right with
    | false =>
      rw [hr] at h25
      simp only [Msg.cs] at h25
      cases ns with
      | nil =>
        have h30 := w30 h (.cells [.osl false false 1 (byE [])] :: ex) (m.cs (.osl false true 0 [])) (.int .i64 0) rfl
        simp only [ferr, Msg.cs, msg0] at h30
        simp only [lsD] at h25
        simp only [List.length_cons, List.length_nil, Nat.reduceAdd, List.nil_append, Zaj, kSeq_pan, Zao, Zbb, Zbe, Zbf, Zak, Za9, Zbq, kC_pan, Zc0, List.getElem?_toArray, List.getElem?_cons_succ, List.getElem?_cons_zero, Option.bind_some, Nat.reduceLT, ne_eq, reduceCtorEq, not_false_eq_true, implies_true, Bool.false_eq_true, Option.map_some, List.set_cons_succ, List.set_cons_zero, List.getD_cons_succ, List.getD_cons_zero, Zau, Zbo, Zbk, List.any_cons, List.any_nil, Zb3, Zds, ↓reduceIte, Za6, Zam, Zbd, Za5, Za4, Zaf, Zac, Zai, Zaw, Zap, Zan, Zb8, Zay, Zd0, Zab, Zaa, Zdy, Zd6, Zbm, Zcx, Zcw, Zg6, List.forall_mem_cons, List.not_mem_nil, false_imp_iff, and_self, Option.some.injEq, Zfx, mkT, List.append_nil, Zas, Zbh, Zbg, Zcz, Ze4, Zad, Zb6, Zb5, Zb4, Zbs, Zb2, List.take_succ_cons, List.take_zero, List.drop_succ_cons, List.drop_zero, Za8, Option.bind_eq_bind, Zag, Bool.or_self, Nat.add_zero, Nat.zero_add, Nat.succ_ne_zero, Option.pure_def, Nat.le_refl, sz25, sz27, sz31, ag25, ag27, ag31, Za1 (hcv _), hres, st58, rdC, l0, e1, h33f, kF_pan1, h30, kU_rcv, back, Zcp, taken, Zbj, Zdo, Zfn, kep0_osl, Msg.cs, msg0, h25, slN, and_false]
      | cons n ns =>
        have h30 := w30 h (.cells [.osl false false 1 (byE [])] :: ex) (m.cs (.osl false false 1 (isE (Zip (n :: ns))))) (.int .i64 0) rfl
        simp only [ferr, Msg.cs, msg0] at h30
        simp only [lsD] at h25
        simp only [List.length_cons, List.length_nil, Nat.reduceAdd, List.nil_append, Zaj, kSeq_pan, Zao, Zbb, Zbe, Zbf, Zak, Za9, Zbq, kC_pan, Zc0, List.getElem?_toArray, List.getElem?_cons_succ, List.getElem?_cons_zero, Option.bind_some, Nat.reduceLT, ne_eq, reduceCtorEq, not_false_eq_true, implies_true, Bool.false_eq_true, Option.map_some, List.set_cons_succ, List.set_cons_zero, List.getD_cons_succ, List.getD_cons_zero, Zau, Zbo, Zbk, List.any_cons, List.any_nil, Zb3, Zds, Bool.or_false, ↓reduceIte, Za6, Zam, Zbd, Za5, Za4, Zaf, Zac, Zai, Zaw, Zap, Zan, Zb8, Zay, Zd0, Zab, Zaa, Zdy, Zd6, Zbm, Zcx, Zcw, Zg6, List.forall_mem_cons, List.not_mem_nil, false_imp_iff, and_self, Option.some.injEq, Zfp, Zfx, mkT, List.append_nil, Zas, Zbh, Zbg, Zcz, Zeu, Ze4, Zad, Zb6, Zb5, Zb4, Zbs, Zb2, List.take_succ_cons, List.take_zero, List.drop_succ_cons, List.drop_zero, List.map_cons, List.map_nil, Za8, Option.bind_eq_bind, Zag, Bool.or_self, Bool.or_true, Nat.add_zero, Nat.zero_add, Nat.succ_ne_zero, Option.pure_def, Nat.le_refl, sz25, sz27, sz31, ag25, ag27, ag31, Za1 (hcv _), hres, st58, rdC, l0, e1, h33f, kF_pan1, h30, kU_rcv, back, Zcp, taken, Zbj, Zdo, Zfn, kep0_osl, Msg.cs, msg0, h25, slN, kep0_e, and_false]
    | true =>
      rw [hr] at h25
      simp only [Msg.cs] at h25
      cases ns with
      | nil =>
        have h30 := fun H => w30_no h.length (h.length + 1) H
        simp only [lsD] at h25
        simp only [List.length_cons, List.length_nil, Nat.reduceAdd, List.nil_append, Zaj, Zaz, Za3, Zae, Zao, Zbb, Zbe, Zbf, Zak, Za9, Zce, Zbq, Zc0, List.getElem?_toArray, List.getElem?_cons_succ, List.getElem?_cons_zero, Option.bind_some, Nat.reduceLT, ne_eq, reduceCtorEq, not_false_eq_true, implies_true, Bool.false_eq_true, Option.map_some, List.set_cons_succ, List.set_cons_zero, List.getD_cons_succ, List.getD_cons_zero, Zau, Zbo, Zbk, List.any_cons, List.any_nil, Zb3, Zds, Bool.or_false, ↓reduceIte, Za6, Zam, Zbc, Zbd, Za5, Za4, Zaf, Zaq, Zac, Zai, Zaw, Zap, Zan, Zb8, Zay, Zd0, Zab, Zaa, Zdy, Zd6, Zbm, Zcx, Zcw, Zg6, List.forall_mem_cons, List.not_mem_nil, false_imp_iff, and_self, Option.some.injEq, Zfx, mkT, List.append_nil, Zas, Zbh, Zbg, Zcz, Zeu, Ze4, Zad, Zb6, Zb5, Zb4, Zb1, Zc9, Zb9, Zco, Zbs, Zcq, Zb2, List.take_succ_cons, List.take_zero, List.drop_succ_cons, List.drop_zero, Za8, Option.bind_eq_bind, Zag, Bool.or_self, Nat.add_zero, Nat.zero_add, Nat.succ_ne_zero, Option.pure_def, Nat.le_refl, sz25, sz27, sz31, ag25, ag27, ag31, Za1 (hcv _), hres, st58, rdC, l0, e1, h33t, kF_ret1, h30, kU_val, back, Zcp, taken, Zbj, Zdo, beq_self_eq_true, Nat.reduceBEq, Zfn, kep0_osl, Msg.cs, h25, slN, lrD]
      | cons n ns =>
        have h30 := fun H => w30_no h.length (h.length + 1) H
        simp only [lsD] at h25
        simp only [List.length_cons, List.length_nil, Nat.reduceAdd, List.nil_append, Zaj, Zaz, Za3, Zae, Zao, Zbb, Zbe, Zbf, Zak, Za9, Zce, Zbq, Zc0, List.getElem?_toArray, List.getElem?_cons_succ, List.getElem?_cons_zero, Option.bind_some, Nat.reduceLT, ne_eq, reduceCtorEq, not_false_eq_true, implies_true, Bool.false_eq_true, Option.map_some, List.set_cons_succ, List.set_cons_zero, List.getD_cons_succ, List.getD_cons_zero, Zau, Zbo, Zbk, List.any_cons, List.any_nil, Zb3, Bool.or_false, ↓reduceIte, Za6, Zam, Zbc, Zbd, Za5, Za4, Zaf, Zaq, Zac, Zai, Zaw, Zap, Zan, Zb8, Zay, Zd0, Zab, Zaa, Zdy, Zd6, Zbm, Zcx, Zcw, Zg6, List.forall_mem_cons, List.not_mem_nil, false_imp_iff, and_self, Option.some.injEq, Zfp, Zfx, mkT, List.append_nil, Zas, Zbh, Zbg, Zcz, Zeu, Ze4, Zad, Zb6, Zb5, Zb4, Zb1, Zc9, Zb9, Zco, Zbs, Zcq, Zb2, List.take_succ_cons, List.take_zero, List.drop_succ_cons, List.drop_zero, List.map_cons, List.map_nil, Za8, Option.bind_eq_bind, Zag, Bool.or_self, Bool.or_true, Nat.add_zero, Nat.zero_add, Nat.succ_ne_zero, Option.pure_def, Nat.le_refl, sz25, sz27, sz31, ag25, ag27, ag31, Za1 (hcv _), hres, st58, rdC, l0, e1, h33t, kF_ret1, h30, kU_val, left0_e, back, Zcp, taken, Zbj, Zdo, beq_self_eq_true, Nat.reduceBEq, Zdb, Zcg, Zfn, left0_nf, kep0_osl, Msg.cs, h25, slN, lrD, kep0_e]


def pat17 (h : List O) : List (Option D) := [none, none, some (.ptr h.length 0), some (.ptr (h.length + 1) 0), some (.ptr (h.length + 2) 0), none, none, none, none, none, none, none, none, none, none, none, none, none, none, none, none, none, none, none, none, none, none, none, none, none, none, none, none, none, none, none, none, none, none, none, none, none, none, none, none, none, none, none, none, none, none, none, none, none, none, none]
theorem w17_end (s : St) (m : Msg) (ns : List Nat) (l5 : List UInt8) (h ex : List O) (c : Code) (hc : tl17 = some c) (hm : m.list = Zip ns) (hx5 : l5.length ≤ 100000) (hn : ns.length ≤ 1000)
    (h1 : s.d = [(30, [.ptr h.length 0, .ptr (h.length + 1) 0])]) (h2 : s.r = .no) (h3 : s.h = h ++ .cells (m.cs (slN ns)) :: .cells [.int .i64 0] :: .cells [rdC l5] :: ex) (h4 : mkT (pat17 h) s.t 0 = s.t) :
    kx Try.prog wpr wcv 17 c s (kF Try.prog wpr wcv Try.f17 h) =
      some (.val (if l5 = [] ∧ m.right = true then .tup [.agg (m.cs (lrD ns)), .int .i64 0] else .tup [.agg (msg0.cs (.osl false true 0 [])), .int .i64 12]), h) := by
  obtain ⟨zs, rfl⟩ := Zd7 h1 h2 h3 h4
  exact w17_tail zs m ns l5 h ex c hc hm hx5 hn

/-- The rest of the code, not looked at. -/
noncomputable def Stop {β : Type} (P : Program) (pr : FuncId → List D → Option D) (cv : FuncId → Nat → List Cv) (f : FuncId) (c : Code) (s : St) (k : X × St → Option β) : Option β := kx P pr cv f c s k
theorem stop13 {β : Type} {P : Program} {pr : FuncId → List D → Option D} {cv : FuncId → Nat → List Cv} {f : FuncId} {r : Code} {s : St} {k : X × St → Option β} {a : Array Oper} {b : Bool} :
    kSeq P pr cv f (.seq (.region 13 a b) r) k (.nrm, s) = Stop P pr cv f (.seq (.region 13 a b) r) s k := rfl
end Go.Abs

namespace Go.Abs
open Go Go.Proofs
set_option maxRecDepth 10000
set_option maxHeartbeats 4000000

theorem Heads.len {l r : List UInt8} {a b c d : Nat} (h : Heads l r a b c d) : r.length ≤ l.length := by
  obtain ⟨l1, l2, l3, p0, p1, p2, p3⟩ := h.ex
  have := Zfw p0; have := Zfw p1; have := Zfw p2; have := Zfw p3
  omega
open Classical in
theorem w17_none (a : D) (xs l4 : List UInt8) (n0 n1 n2 n3 : Nat) (ha : Rd a (byE xs)) (hx : xs.length ≤ 100000) (hh : Heads xs l4 n0 n1 n2 n3) (h13 : n0 < 13)
    (hk : n0 ≠ 4 ∧ n0 ≠ 5 ∧ n0 ≠ 6 ∧ n0 ≠ 7 ∧ n0 ≠ 10 ∧ n0 ≠ 11 ∧ n0 ≠ 12) (h : List O) :
    wc 17 [a] h = some (.val (if l4 = [] ∧ (Zgd n0 n1 n2 n3).right = true then .tup [.agg ((Zgd n0 n1 n2 n3).cs (lrD [])), .int .i64 0] else .tup [.agg (msg0.cs (.osl false true 0 [])), .int .i64 12]), h) := by
  have h31 := clone31 ha (by omega)
  have b58 := build58 (d := .osl true false 1 (byE xs)) rfl rfl
  have h32 := w32 (h.length + 2)
  have hx4 : l4.length ≤ 100000 := by have := hh.len; omega
  have hcv : ∀ i, wcv 17 i = [] := fun _ => rfl
  have hres : Try.f17.results.toList = [ResultVar.cell 2 27, ResultVar.cell 3 25] := rfl
  rw [wc, Zbt rfl Try.func17 rfl]
  simp only [Zbi, List.length_cons, List.length_nil, Nat.reduceAdd, Nat.reduceSub, List.replicate, List.cons_append, List.nil_append, Zaj, Zc3, Za3, Zae, Zao, Zbe, Zbf, Za9, Zce, Zbq, ne_eq, reduceCtorEq, not_false_eq_true, implies_true, Bool.false_eq_true, Option.map_some, List.set_cons_succ, List.set_cons_zero, List.getD_cons_succ, List.getD_cons_zero, Zbo, Zbk, List.any_cons, List.any_nil, Bool.or_false, ↓reduceIte, Za0, Zdz, Zd2, Zdv, Zec, Za4, Zaf, Zac, Zaw, Zap, Ze7, Zd9, List.append_nil, hlen, Zi9, Zb1, Zc9, Zb9, Zco, List.map_cons, List.map_nil, Bool.or_self, Nat.zero_add, Za1 (hcv _), Try.ntmps17, ha.ownD, zo27, zo25, exO_defer, h31, b58, zo59, List.zip_cons_cons, List.zip_nil_right, h32, List.any_toArray, Zcp, taken, Zbj, Zdo, Nat.reduceBEq, Zdb, Zcg, Zd1, Zfn, Zc1]
  rw [kx_range rfl rfl rfl]
  simp only [List.length_cons, List.length_nil, Nat.reduceAdd, List.cons_append, List.nil_append, hlen, List.map_cons, List.map_nil, Nat.zero_add, List.append_assoc, shrT_undef, shrT_ptr, shrT_func, shrT_rd ha, leftT_agg, Zh1, shrT_hdr, shrT_agg, shr0_hdr]
  refine kRng_of (P := Try.prog) (pr := wpr) (cv := wcv) (w60 h _ _ _ xs l4 n0 n1 n2 n3 _ _ _ _ hx hh ?_) ?_
  · intro l hs i n hi hl4
    refine (call_round (hgetn.trans rfl) rfl).trans ?_
    simp only [Zaj, Za3, Zae, Zao, Za9, ne_eq, reduceCtorEq, not_false_eq_true, implies_true, Option.map_some, List.set_cons_succ, List.set_cons_zero, List.getD_cons_succ, List.getD_cons_zero, Zau, Za0, Za4, List.foldl_nil, Za1 (hcv _), List.zip_cons_cons, List.zip_nil_right, List.foldl_cons]
    rw [kBody_nrm (hgetn.trans rfl)]
    have hi1 : i + 1 ≤ hs.length := by omega
    simp only [List.length_cons, List.length_nil, Zc3, Zc8, Zae, Zao, Za9, Zce, Option.bind_some, ne_eq, reduceCtorEq, not_false_eq_true, implies_true, Option.map_some, List.set_cons_succ, List.set_cons_zero, List.getD_cons_succ, List.getD_cons_zero, Zau, Zbk, ↓reduceIte, Za2, Zbc, Zbl, Za4, Zaf, Zac, and_self, Zbh, Zbg, Zcz, Ze4, Zad, Zb4, Zc9, Zco, Zcq, Nat.zero_add, sz3, Za1 (hcv _), ix59 hi, hi1, put_set (show i < hs.length by omega)]
    rw [rout_nrm (hgetn.trans rfl)]
    simp only [List.set_cons_succ, List.set_cons_zero, Ze4]
  · rw [kRng_nrm' (n := h.length + 5) (by simp) (hgetn.trans rfl) (by simp)]
    simp only [Zaj, Za3, Zc8, Zao, ne_eq, reduceCtorEq, not_false_eq_true, implies_true, List.set_cons_succ, List.set_cons_zero, Zbl, Zai, Zan, Ze4, List.map_cons, List.map_nil, Za1 (hcv _)]
    rw [gc_tail (n := h.length + 5) (h := h) (l := [_, _, _, _, _]) rfl (.tup [] (by simp)) ?_]
    rotate_left
    · exact ⟨.inl rfl, .inl rfl, .inr (.cells _ (by simp [rdC_fit])), .inr (.cells _ (by simp [Zbm])), .inl rfl, trivial⟩
    simp only [List.length_cons, List.length_nil, Nat.reduceAdd, Zao, Zbe, Zbf, Za9, List.getElem?_cons_zero, Option.bind_some, Nat.reduceLeDiff, ne_eq, reduceCtorEq, not_false_eq_true, implies_true, Bool.false_eq_true, Option.map_some, List.set_cons_succ, List.set_cons_zero, List.getD_cons_succ, List.getD_cons_zero, Zau, Zbk, Zb3, ↓reduceIte, Za6, Za4, Zaf, Zac, Zai, Zaw, Zap, Zan, Zc2, Zbv, Zbh, Zbg, Zcz, Zad, Zbs, List.take_succ_cons, List.take_zero, List.map_cons, List.map_nil, Zag, Nat.zero_add, sz3, ag3, kep_undef, kep_ptr, kep_func, kep_rd ha, kep_hdr, kep_agg, kep0_hdr, ix59_0]
    have h33 := w33 true
    have e13 : decide ((n0 : Int) < 13) = true := by simp; omega
    have wk : IntKind.u8.wrap (n0 : Int) = (n0 : Int) := by rw [IntKind.wrap_u8]; omega
    have h34 := w34 h.length (h ++ [.cells ((Zgd n0 n1 n2 n3).cs (.osl false true 0 [])), .cells [.e (.int .i64 0)], .cells [rdC l4], .cells [.int .i64 (n0 : Int), .int .i64 (n1 : Int), .int .i64 (n2 : Int), .int .i64 (n3 : Int)], .cells [.ptr (h.length + 2) 0]])
    have b27 := @build27 n0 n1 n2 n3
    simp only [Msg.cs, Zgd, List.append_assoc, List.cons_append, List.nil_append, hlen, List.length_cons, List.length_nil, Nat.add_assoc, Nat.reduceAdd] at h34
    simp only [List.length_cons, List.length_nil, Nat.reduceAdd, List.nil_append, Zaj, Za3, Zae, Zao, Za9, Zce, Zbq, List.getElem?_cons_succ, List.getElem?_cons_zero, Option.bind_some, Nat.reduceLeDiff, ne_eq, reduceCtorEq, not_false_eq_true, implies_true, Bool.false_eq_true, Option.map_some, List.set_cons_succ, List.set_cons_zero, List.getD_cons_succ, List.getD_cons_zero, Zau, Zbo, Zbk, List.any_cons, List.any_nil, Zb3, Zds, ↓reduceIte, Zck, Zdv, Zbc, Zbl, Za4, Zaf, Zac, Zai, Zaw, Zap, Zan, and_self, List.append_nil, Zas, Zbh, Zbg, Zcz, Zeu, Zad, Zb4, Zb1, Zb9, Zbs, Zcq, List.take_zero, List.drop_succ_cons, List.drop_zero, List.map_cons, List.map_nil, Zag, Bool.or_self, Nat.zero_add, Nat.le_refl, sz3, sz27, ag3, Za1 (hcv _), e13, h33, ix59_0, ix59_1, ix59_2, ix59_3, Zey Try.underlying3 Try.underlying5, wk, b27, List.zip_cons_cons, List.zip_nil_right]
    refine (Zf8 (l := Zgx) (by exact plan17_10_eq)).trans ?_
    obtain ⟨k4, k5, k6, k7, k10, k11, k12⟩ := hk
    have f4 : ((n0 : Int) == 4) = false := by simp; omega
    have f5 : ((n0 : Int) == 5) = false := by simp; omega
    have f6 : ((n0 : Int) == 6) = false := by simp; omega
    have f7 : ((n0 : Int) == 7) = false := by simp; omega
    have f10 : ((n0 : Int) == 10) = false := by simp; omega
    have f11 : ((n0 : Int) == 11) = false := by simp; omega
    have f12 : ((n0 : Int) == 12) = false := by simp; omega
    simp only [List.length_cons, List.length_nil, Nat.reduceAdd, Zaj, Za3, Zao, Za9, St.put, List.getElem?_toArray, List.getElem?_cons_succ, List.getElem?_cons_zero, Option.bind_some, Nat.reduceLeDiff, ne_eq, reduceCtorEq, not_false_eq_true, implies_true, Bool.not_false, Bool.true_eq_false, Bool.false_eq_true, Option.map_some, List.set_cons_succ, List.set_cons_zero, List.getD_cons_succ, List.getD_cons_zero, Zau, Zef, Zbk, Zfu, List.any_cons, List.any_nil, ↓reduceIte, Za2, Za0, Za6, Za5, Za4, Zac, Zai, Zaw, Zap, Zdt, false_imp_iff, and_self, List.toList_toArray, Ze5, kd_l, Zc5, Zc4, kd_r, Zcf, Zbn, Zba, Zcs, Zci, Zde, Zbx, Zbw, Zbu, Zeb, Op.operands, Zg3, Zfp, Ze2, List.foldl_nil, Zas, Zbg, hgetn, Zad, Zb6, Zb5, Za8, Bool.or_self, Nat.add_zero, Nat.zero_add, Nat.succ_ne_zero, sz5, ag5, st27, Za1 (hcv _), hcv, kd_h, Zca, Zd4, Zd5, Zex, Ze3, Zdk, Zcb, Zcc, Zcd, Zfc, Zen, Zff, List.all_cons, List.all_nil, Bool.and_self, Zgx, h34, Zew, mp65, key5, Zfq, Zh5, Zia, find_nil, f4, f5, f6, f7, f10, f11, f12, zo64, show Nat.testBit 7 0 = true by decide, show Nat.testBit 15 2 = true by decide, show Nat.testBit 15 3 = true by decide]
    simp only [Zbz, Za7, Zar, Za3, Zae, Za9, Option.map_some, List.set_cons_succ, List.set_cons_zero, List.getD_cons_succ, List.getD_cons_zero, binF_nil Try.underlying64, Zcu, ↓stop13]
    exact w17_end _ (Zgd n0 n1 n2 n3) [] l4 h _ _ rfl rfl hx4 (by simp) rfl rfl rfl rfl

end Go.Abs

namespace Go.Abs
open Go Go.Proofs

theorem u8_mod (n : Nat) : (UInt8.ofNat n).toNat = n % 256 := by simp
theorem digs_zero : digs 0 = [] := by rw [digs]; simp
theorem digs_cons {n : Nat} (h : 0 < n) : digs n = UInt8.ofNat n :: digs (n / 256) := by rw [digs]; simp [h]
theorem valB_digs : ∀ n : Nat, valB (digs n).reverse = n := by
  intro n
  induction n using Nat.strongRecOn with
  | _ n ih =>
    by_cases h : 0 < n
    · rw [digs_cons h, List.reverse_cons, valB_snoc, ih (n / 256) (by omega), u8_mod]; omega
    · have : n = 0 := by omega
      subst this; rw [digs_zero]; rfl
theorem digs_ne {n : Nat} (h : 0 < n) : digs n ≠ [] := by rw [digs_cons h]; simp
theorem digs_last : ∀ n : Nat, ∀ h : 0 < n, 0 < ((digs n).getLast (digs_ne h)).toNat := by
  intro n
  induction n using Nat.strongRecOn with
  | _ n ih =>
    intro h
    by_cases h2 : 0 < n / 256
    · have e : (digs n).getLast (digs_ne h) = (digs (n / 256)).getLast (digs_ne h2) := by
        simp only [digs_cons h]; rw [List.getLast_cons (digs_ne h2)]
      rw [e]; exact ih _ (by omega) h2
    · have e : digs n = [UInt8.ofNat n] := by rw [digs_cons h, show n / 256 = 0 by omega, digs_zero]
      simp only [e, List.getLast_singleton, u8_mod]; omega
theorem putL_eq (n : Nat) : putL n = UInt8.ofNat (digs n).length :: (digs n).reverse := by simp [putL]
theorem takeB_putL (n : Nat) (r : List UInt8) (hn : n ≤ 1099511627776) : takeB (putL n ++ r) = .ok n r := by
  have h6 := digs_len n hn
  have hm : (UInt8.ofNat (digs n).length).toNat = (digs n).length := by rw [u8_mod]; omega
  rw [putL_eq, List.cons_append, takeB]
  simp only [hm]
  rw [if_neg (by omega), if_neg (by simp)]
  by_cases h : 0 < n
  · have hl : 0 < (digs n).length := by rw [digs_cons h]; simp
    have hv : valB (((digs n).reverse ++ r).take (digs n).length) = n := by
      rw [List.take_append_of_le_length (by simp), List.take_of_length_le (by simp), valB_digs]
    have hd : 0 < (((digs n).reverse ++ r).getD 0 0).toNat := by
      have e := digs_last n h
      have e2 : (digs n).reverse = (digs n).getLast (digs_ne h) :: ((digs n).dropLast).reverse := by
        conv => lhs; rw [← List.dropLast_concat_getLast (digs_ne h)]
        simp
      rw [e2]; simpa using e
    rw [if_neg (by omega), hv, if_pos ⟨hd, hn⟩, List.drop_append_of_le_length (by simp), List.drop_of_length_le (by simp)]; simp
  · have : n = 0 := by omega
    subst this
    simp [digs_zero]
theorem parN_putL (n : Nat) (r : List UInt8) (hn : n ≤ 1099511627776) : parN (putL n ++ r) = some (n, r) := by simp [parN, takeB_putL n r hn]
theorem Zhx (x : Int) (r : List UInt8) (h0 : 0 ≤ x) (hn : x ≤ 1099511627776) : parN (Zdm [x] ++ r) = some (x.toNat, r) := by
  have := parN_putL x.toNat r (by omega)
  simpa [Zdm] using this
theorem parB_bit (b : Bool) (r : List UInt8) : parB (Zdm [bitZ b] ++ r) = some (b, r) := by
  have := Zhx (bitZ b) r (by cases b <;> decide) (by cases b <;> decide)
  rw [parB, this]
  cases b <;> simp [bitZ]
theorem takeT_textL (s : ByteArray) (r : List UInt8) (hs : s.size < 256) : takeT (textL s ++ r) = some (sL s, r) := by
  have hm : (UInt8.ofNat s.size).toNat = (sL s).length := by rw [u8_mod, sL_len]; omega
  rw [textL, List.cons_append, takeT]
  simp only [hm]
  rw [if_neg (by simp), List.take_append_of_le_length (by simp), List.take_of_length_le (by simp), List.drop_append_of_le_length (by simp), List.drop_of_length_le (by simp)]
  simp
def natsI (xs : List Int) : List Nat := xs.map Int.toNat
theorem takeNs_nums (xs : List Int) (r : List UInt8) (hx : ∀ x ∈ xs, 0 ≤ x ∧ x ≤ 1099511627776) : Zic xs.length (Zdm xs ++ r) = .ok (natsI xs, r) := by
  induction xs with
  | nil => simp [Zic, Zdm, natsI]
  | cons x xs ih =>
    have h1 := hx x (by simp)
    have ih := ih fun y hy => hx y (by simp [hy])
    have e : Zdm (x :: xs) ++ r = putL x.toNat ++ (Zdm xs ++ r) := by simp [Zdm]
    rw [List.length_cons, Zic, e, takeB_putL _ _ (by omega)]
    simp only [ih, natsI, List.map_cons]
theorem takeL_listB (xs : List Int) (r : List UInt8) (hl : xs.length < 256) (hx : ∀ x ∈ xs, 0 ≤ x ∧ x ≤ 1099511627776) : takeL (listB xs ++ r) = .ok (natsI xs, r) := by
  have hm : (UInt8.ofNat xs.length).toNat = xs.length := by rw [u8_mod]; omega
  rw [listB, List.cons_append, takeL, hm, takeNs_nums xs r hx]
theorem parL_listB (xs : List Int) (r : List UInt8) (hl : xs.length < 256) (hx : ∀ x ∈ xs, 0 ≤ x ∧ x ≤ 1099511627776) : parL (listB xs ++ r) = some (natsI xs, r) := by
  rw [parL, takeL_listB xs r hl hx]
theorem intsN_natsI (xs : List Int) (hx : ∀ x ∈ xs, 0 ≤ x ∧ x ≤ 1099511627776) : Zip (natsI xs) = xs := by
  induction xs with
  | nil => rfl
  | cons x xs ih =>
    have h1 := hx x (by simp)
    have ih := ih fun y hy => hx y (by simp [hy])
    simp only [natsI, Zip, List.map_cons, List.map_map] at ih ⊢
    rw [ih]
    congr 1; omega
theorem parP_pair (k : ByteArray) (v n : Int) (g : Bool) (r : List UInt8) (hk : k.size < 256) (hv : 0 ≤ v ∧ v ≤ 1099511627776) (hn : 0 ≤ n ∧ n ≤ 1099511627776) : parP (pairL k v n g ++ r) = some (⟨sL k, v.toNat, n.toNat, g⟩, r) := by
  have e : pairL k v n g ++ r = textL k ++ (Zdm [v] ++ (Zdm [n] ++ (Zdm [bitZ g] ++ r))) := by simp [pairL, Zdm]
  rw [e, parP, takeT_textL _ _ hk]
  simp only [Zhx v _ hv.1 hv.2, Zhx n _ hn.1 hn.2, parB_bit]
theorem BA_sL (s : ByteArray) : BA (sL s) = s := by cases s; simp [BA, sL]

/-- What its kind has is read: the message then, and what is behind. -/
def fillM (m : Msg) (l : List UInt8) : Option (Msg × List UInt8) :=
  if m.kind = 4 then (match parN l with
    | some (k, r) => (match parB r with
      | some (b, r) => some ({ m with key := (k : Int), slow := b }, r)
      | none => none)
    | none => none) else
  if m.kind = 5 then (match parP l with
    | some (x, r) => some ({ m with ikey := BA x.key, ival := (x.val : Int), iver := (x.ver : Int), gone := x.gone }, r)
    | none => none) else
  if m.kind = 6 then (match takeT l with
    | some (s, r) => some ({ m with ikey := BA s }, r)
    | none => none) else
  if m.kind = 7 then (match parN l with
    | some (k, r) => (match parL r with
      | some (ns, r) => some ({ m with pred := IntKind.i64.wrap ((k : Int) - 1), list := Zip ns }, r)
      | none => none)
    | none => none) else
  if m.kind = 10 then (match parN l with
    | some (k, r) => (match parB r with
      | some (b, r) => some ({ m with place := (k : Int), done := b }, r)
      | none => none)
    | none => none) else
  if m.kind = 11 then (match parN l with
    | some (k, r) => some ({ m with code := (k : Int) }, r)
    | none => none) else
  if m.kind = 12 then (match parN l with
    | some (k, r) => if k = 0 then (match parP r with
      | some (x, r) => some ({ m with code := 0, ikey := BA x.key, ival := (x.val : Int), iver := (x.ver : Int), gone := x.gone }, r)
      | none => none) else some ({ m with code := (k : Int) }, r)
    | none => none) else some (m, l)
theorem listZ_num {l : List Int} {frm : Int} (h : listZ l frm = true) : l.length ≤ 3 ∧ ∀ x ∈ l, 0 ≤ x ∧ x ≤ 1099511627776 := by
  simp only [listZ, Bool.and_eq_true, decide_eq_true_eq] at h
  refine ⟨by omega, fun x hx => ?_⟩
  obtain ⟨j, hj, rfl⟩ := List.getElem_of_mem hx
  have := isPlace_iff.1 (h.1 j _ hj (List.getElem?_eq_getElem hj)).1
  omega
theorem fill_body (m : Msg) (hf : m.Fits) (r : List UInt8) : fillM m.head (bodyL m ++ r) = some (m, r) := by
  have hk1 := hf.k1
  have hk2 := hf.k2
  have hff := hf.fine
  have ho := hf.off
  unfold fillM bodyL
  simp only [show m.head.kind = m.kind from rfl, beq_iff_eq]
  by_cases h4 : m.kind = 4
  · simp [Msg.fine, h4] at hff
    have hp := isPlace_iff.1 hff
    simp only [h4, if_true, List.append_assoc, Zhx m.key _ hp.1 (by omega), parB_bit]
    simp [Msg.off, h4, Msg.head] at ho
    cases m; simp [Msg.head] at ho h4 hp ⊢; simp_all; omega
  by_cases h5 : m.kind = 5
  · simp [Msg.fine, h5] at hff
    have hp := finePair_iff.1 hff
    simp [h5, parP_pair m.ikey m.ival m.iver m.gone r (by omega) (by omega) (by omega), BA_sL]
    simp [Msg.off, h5, Msg.head, Msg.noItem] at ho
    cases m; simp [Msg.head] at ho h5 hp ⊢; simp_all; omega
  by_cases h6 : m.kind = 6
  · simp [Msg.fine, h6] at hff
    have hp := fineKey_iff.1 hff
    simp [h6, takeT_textL m.ikey r (by omega), BA_sL]
    simp [Msg.off, h6, Msg.head] at ho
    cases m; simp [Msg.head] at ho h6 hp ⊢; simp_all
  by_cases h7 : m.kind = 7
  · simp [Msg.fine, h7] at hff
    obtain ⟨hl, hx⟩ := listZ_num hff.2
    have hpp : -1 ≤ m.pred ∧ m.pred < 65536 := by
      rcases hff.1 with h | h
      · omega
      · have := isPlace_iff.1 h; omega
    have hw : IntKind.i64.wrap (m.pred + 1) = m.pred + 1 := Zf9 (by omega) (by omega)
    simp only [h7, Int.reduceEq, if_true, if_false, List.append_assoc, hw, Zhx (m.pred + 1) _ (by omega) (by omega), parL_listB m.list r (by omega) hx, intsN_natsI m.list hx]
    have e : IntKind.i64.wrap (((m.pred + 1).toNat : Int) - 1) = m.pred := by rw [Zf9 (by omega) (by omega)]; omega
    rw [e]
    simp [Msg.off, h7, Msg.head] at ho
    cases m; simp [Msg.head] at ho h7 ⊢; simp_all
  by_cases h10 : m.kind = 10
  · simp [Msg.fine, h10] at hff
    have hp := isPlace_iff.1 hff
    simp only [h10, Int.reduceEq, if_true, if_false, List.append_assoc, Zhx m.place _ hp.1 (by omega), parB_bit]
    simp [Msg.off, h10, Msg.head] at ho
    cases m; simp [Msg.head] at ho h10 hp ⊢; simp_all; omega
  by_cases h11 : m.kind = 11
  · simp [Msg.fine, h11] at hff
    have hp : 0 ≤ m.code ∧ m.code ≤ 1099511627776 := by omega
    simp only [h11, Int.reduceEq, if_true, if_false, Zhx m.code _ hp.1 hp.2]
    simp [Msg.off, h11, Msg.head] at ho
    cases m; simp [Msg.head] at ho h11 hp ⊢; simp_all; omega
  by_cases h12 : m.kind = 12
  · simp [Msg.fine, h12] at hff
    simp [Msg.off, h12, Msg.head, Msg.noItem] at ho
    rcases hff with ⟨hc, hpp⟩ | ⟨hc, hr⟩
    · have hp := finePair_iff.1 hpp
      have e := Zhx (0 : Int) (pairL m.ikey m.ival m.iver m.gone ++ r) (by decide) (by decide)
      simp only [h12, hc, Int.reduceEq, if_true, if_false, List.append_assoc, e, parP_pair m.ikey m.ival m.iver m.gone r (by omega) (by omega) (by omega), BA_sL, show (0 : Int).toNat = 0 from rfl]
      cases m; simp [Msg.head] at ho h12 hp hc ⊢; simp_all; omega
    · have e := Zhx (201 : Int) r (by decide) (by decide)
      simp only [h12, hc, Int.reduceEq, if_true, if_false, List.append_nil, e, show (201 : Int).toNat = 201 from rfl, show ¬ (201 : Nat) = 0 by decide]
      have hr1 : m.ikey = { data := #[] } := by simpa [bab] using hr.1
      cases m; simp [Msg.head] at ho h12 hc hr hr1 ⊢; simp_all
  · simp only [h4, h5, h6, h7, h10, h11, h12, if_false, List.nil_append]
    have e1 : (m.kind == 4) = false := by simpa using h4
    have e2 : (m.kind == 5) = false := by simpa using h5
    have e3 : (m.kind == 6) = false := by simpa using h6
    have e4 : (m.kind == 7) = false := by simpa using h7
    have e5 : (m.kind == 10) = false := by simpa using h10
    have e6 : (m.kind == 11) = false := by simpa using h11
    have e7 : (m.kind == 12) = false := by simpa using h12
    simp only [Msg.off, e1, e2, e3, e4, e5, e6, e7, Bool.false_eq_true, if_false] at ho
    rw [← ho]

/-- The head is read. -/
theorem heads_pay (m : Msg) (hf : m.Fits) (r : List UInt8) : Heads (payL m ++ r) (bodyL m ++ r) m.kind.toNat m.call.toNat m.frm.toNat m.to.toNat := by
  obtain ⟨h0, h1, h2, h3⟩ := fits_okN hf
  simp only [okN, Bool.and_eq_true, decide_eq_true_eq] at h0 h1 h2 h3
  have e : payL m ++ r = Zdm [m.kind] ++ (Zdm [m.call] ++ (Zdm [m.frm] ++ (Zdm [m.to] ++ (bodyL m ++ r)))) := by simp [payL, Ziw, Zdm]
  refine ⟨_, _, _, ?_, Zhx m.call _ h1.1 h1.2, Zhx m.frm _ h2.1 h2.2, Zhx m.to _ h3.1 h3.2⟩
  rw [e]; exact Zhx m.kind _ h0.1 h0.2
theorem Heads.det {l r r' : List UInt8} {a b c d a' b' c' d' : Nat} (h : Heads l r a b c d) (h' : Heads l r' a' b' c' d') : r = r' ∧ a = a' ∧ b = b' ∧ c = c' ∧ d = d' := by
  obtain ⟨l1, l2, l3, p0, p1, p2, p3⟩ := h.ex
  obtain ⟨k1, k2, k3, q0, q1, q2, q3⟩ := h'.ex
  rw [p0] at q0; simp at q0; obtain ⟨rfl, rfl⟩ := q0
  rw [p1] at q1; simp at q1; obtain ⟨rfl, rfl⟩ := q1
  rw [p2] at q2; simp at q2; obtain ⟨rfl, rfl⟩ := q2
  rw [p3] at q3; simp at q3; obtain ⟨rfl, rfl⟩ := q3
  exact ⟨rfl, rfl, rfl, rfl, rfl⟩
theorem fits_nat {m : Msg} (hf : m.Fits) : (m.kind.toNat : Int) = m.kind ∧ (m.call.toNat : Int) = m.call ∧ (m.frm.toNat : Int) = m.frm ∧ (m.to.toNat : Int) = m.to := by
  obtain ⟨h0, h1, h2, h3⟩ := fits_okN hf
  simp only [okN, Bool.and_eq_true, decide_eq_true_eq] at h0 h1 h2 h3
  omega
/-- One payload, one message. -/
theorem pay_inj {m o : Msg} (hm : m.Fits) (ho : o.Fits) (h : payL m = payL o) : m = o := by
  have a := heads_pay m hm []
  have b := heads_pay o ho []
  rw [h] at a
  obtain ⟨e0, e1, e2, e3, e4⟩ := a.det b
  have x := fits_nat hm
  have y := fits_nat ho
  have hh : m.head = o.head := by
    simp only [Msg.head, Msg.mk.injEq]
    refine ⟨by omega, by omega, by omega, by omega, ?_⟩; simp
  have f1 := fill_body m hm []
  have f2 := fill_body o ho []
  rw [e0, hh, f2] at f1
  simpa using f1.symm
end Go.Abs

namespace Go.Abs
open Go Go.Proofs

theorem closeL_len (xs : List UInt8) : (Zgk xs).length = xs.length + 8 := by simp [Zgk, hdr4, tail4]
theorem closeL_mid (xs : List UInt8) : ((Zgk xs).drop 4).take xs.length = xs := by simp [Zgk, hdr4]
theorem closeL_inj {xs ys : List UInt8} (h : Zgk xs = Zgk ys) : xs = ys := by
  have hl : xs.length = ys.length := by have := congrArg List.length h; simp only [closeL_len] at this; omega
  have h1 := closeL_mid xs
  rw [h, hl, closeL_mid] at h1
  exact h1.symm
theorem apart {m o : Msg} (hm : m.Fits) (ho : o.Fits) : Zgk (payL m) = Zgk (payL o) ↔ m = o :=
  ⟨fun h => pay_inj hm ho (closeL_inj h), fun h => by rw [h]⟩
end Go.Abs

namespace Go.Abs
open Go Go.Proofs
set_option maxRecDepth 10000
set_option maxHeartbeats 4000000

theorem okFrame_close (xs : List UInt8) (h : xs.length ≤ 112) : Zhs (Zgk xs) xs.length = true := by
  have e : (hdr4 xs.length).length = 4 := rfl
  have e1 : (Zgk xs).take 4 = hdr4 xs.length := by simp [Zgk, e]
  have e2 : (Zgk xs).take (4 + xs.length) = hdr4 xs.length ++ xs := by
    rw [Zgk, List.take_append_of_le_length (by simp [e]), List.take_of_length_le (by simp [e])]
  have e3 : (Zgk xs).drop (4 + xs.length) = tail4 (crc (hdr4 xs.length ++ xs)) := by
    rw [Zgk, List.drop_append_of_le_length (by simp [e]), List.drop_of_length_le (by simp [e])]; rfl
  simp only [Zhs, e1, e2, e3, decide_true, Bool.and_true, decide_eq_true_eq]
  exact h

theorem w11_bad (a : D) (xs : List UInt8) (e : Int) (ha : Rd a (byE xs)) (he : (e != 0) = true) (h24 : ∀ h, wc 24 [a] h = some (.val (.tup [.osl false true 0 [], .int .i64 e]), h)) (h : List O) :
    wc 11 [a] h = some (.val (.tup [.agg (msg0.cs (.osl false true 0 [])), .int .i64 e]), h) := by
  have b27 := build27_nil
  simp only [Msg.cs, msg0] at b27
  have hcv : ∀ i, wcv 11 i = [] := fun _ => rfl
  have hres : Try.f11.results.toList = [ResultVar.cell 2 27, ResultVar.tmp 3] := rfl
  rw [wc, Zbt rfl Try.func11 rfl]
  simp only [Zbi, List.length_cons, List.length_nil, Nat.reduceAdd, Nat.reduceSub, List.replicate, List.cons_append, List.nil_append, Zaj, Zaz, Za7, Zal, Za3, Zbr, Zae, Zao, Zbe, Zbf, Za9, Zce, Zbq, List.getElem?_cons_succ, List.getElem?_cons_zero, Option.bind_some, ne_eq, reduceCtorEq, not_false_eq_true, implies_true, Bool.false_eq_true, Option.map_some, List.set_cons_succ, List.set_cons_zero, List.getD_cons_succ, List.getD_cons_zero, Zau, Zdj, Zbo, List.any_cons, List.any_nil, Zb3, Zds, Bool.or_false, ↓reduceIte, Za0, Za6, Zdz, Zdv, Zbc, Zc7, Za4, Zaf, Zaq, Zac, Zai, Zaw, Zap, Zan, Zel, Ze0, Zb0, Zab, Zaa, Zah, Zdy, Zd6, Zbm, Zcx, Zcw, Zg6, List.forall_mem_cons, List.not_mem_nil, false_imp_iff, and_self, List.append_nil, Zas, Zbg, Zeu, Zad, Zb4, Zb1, Zb9, Zbs, Zcq, Zb2, List.take_succ_cons, List.take_zero, List.drop_succ_cons, List.drop_zero, List.map_nil, Bool.or_self, Bool.or_true, Nat.zero_add, Nat.le_refl, sz27, ag27, Za1 (hcv _), Try.ntmps11, hres, ha.ownD, zo27, h24, he, b27, List.zip_nil_right, Msg.cs, msg0, Zdd, Zgp, Zj1, Zcp, taken, Zbj, Zdo, beq_self_eq_true, Nat.reduceBEq]
theorem w11_ok (a : D) (xs p : List UInt8) (m : Msg) (ns : List Nat) (e : Int) (ha : Rd a (byE xs)) (h24 : ∀ h, wc 24 [a] h = some (.val (.tup [.osl true false 1 (byE p), .int .i64 0]), h))
    (h17 : ∀ b, Rd b (byE p) → ∀ h, wc 17 [b] h = some (.val (.tup [.agg (m.cs (lrD ns)), .int .i64 e]), h)) (h : List O) :
    wc 11 [a] h = some (.val (.tup [.agg (m.cs (lrD ns)), .int .i64 e]), h) := by
  have h17 := h17 (.e (.sl (byE p))) Rd.e
  have e0 : ((0 : Int) != 0) = false := by decide
  simp only [Msg.cs] at h17
  have hcv : ∀ i, wcv 11 i = [] := fun _ => rfl
  have hres : Try.f11.results.toList = [ResultVar.cell 2 27, ResultVar.tmp 3] := rfl
  rw [wc, Zbt rfl Try.func11 rfl]
  cases ns with
  | nil =>
    simp only [lrD] at h17
    simp only [Zbi, List.length_cons, List.length_nil, Nat.reduceAdd, Nat.reduceSub, List.replicate, List.cons_append, List.nil_append, Zaj, Zbz, Zaz, Za7, Zar, Za3, Zae, Zao, Zbe, Zbf, Za9, Zce, Zbq, List.getElem?_cons_succ, List.getElem?_cons_zero, Option.bind_some, ne_eq, reduceCtorEq, not_false_eq_true, implies_true, Bool.false_eq_true, Option.map_some, List.set_cons_succ, List.set_cons_zero, List.getD_cons_succ, List.getD_cons_zero, Zau, Zbo, List.any_cons, List.any_nil, Zb3, Zds, Bool.or_false, ↓reduceIte, Za0, Za6, Zdz, Zbc, Zc7, Za4, Zaf, Zaq, Zac, Zai, Zaw, Zap, Zan, Zel, Ze0, Zb0, Zab, Zaa, Zah, Zdy, Zd6, Zbm, Zcx, Zcw, Zg6, List.forall_mem_cons, List.not_mem_nil, false_imp_iff, and_self, List.append_nil, Zas, Zbg, Zeu, Zad, Zb4, Zb1, Zb9, Zcm, Zbs, Zcq, Zb2, List.take_succ_cons, List.take_zero, List.drop_succ_cons, List.drop_zero, List.map_cons, List.map_nil, Bool.or_self, Nat.zero_add, Nat.le_refl, sz27, ag27, Za1 (hcv _), Try.ntmps11, hres, ha.ownD, zo27, h24, e0, h17, Msg.cs, lrD, Zdd, Zgp, Zhr, Zfr, left_e, Zcp, taken, Zbj, Zdo, beq_self_eq_true, Nat.reduceBEq, Zdb, Zcg, Zgo, Zf7, Zd1, Zc1, Zi8, shr_nf, Zf2]
  | cons n ns =>
    simp only [lrD] at h17
    simp only [Zbi, List.length_cons, List.length_nil, Nat.reduceAdd, Nat.reduceSub, List.replicate, List.cons_append, List.nil_append, Zaj, Zbz, Zaz, Za7, Zar, Za3, Zae, Zao, Zbe, Zbf, Za9, Zce, Zbq, List.getElem?_cons_succ, List.getElem?_cons_zero, Option.bind_some, ne_eq, reduceCtorEq, not_false_eq_true, implies_true, Bool.false_eq_true, Option.map_some, List.set_cons_succ, List.set_cons_zero, List.getD_cons_succ, List.getD_cons_zero, Zau, Zbo, List.any_cons, List.any_nil, Zb3, Bool.or_false, ↓reduceIte, Za0, Za6, Zdz, Zbc, Zc7, Za4, Zaf, Zaq, Zac, Zai, Zaw, Zap, Zan, Zel, Ze0, Zb0, Zab, Zaa, Zah, Zdy, Zd6, Zbm, Zcx, Zcw, Zg6, List.forall_mem_cons, List.not_mem_nil, false_imp_iff, and_self, List.append_nil, Zas, Zbg, Zeu, Zad, Zb4, Zb1, Zb9, Zcm, Zbs, Zcq, Zb2, List.take_succ_cons, List.take_zero, List.drop_succ_cons, List.drop_zero, List.map_cons, List.map_nil, Bool.or_self, Bool.or_true, Nat.zero_add, Nat.le_refl, sz27, ag27, Za1 (hcv _), Try.ntmps11, hres, ha.ownD, zo27, h24, e0, h17, Msg.cs, lrD, Zdd, Zgp, Zhr, Zfr, left_e, left_agg, left0_e, Zcp, taken, Zbj, Zdo, beq_self_eq_true, Nat.reduceBEq, Zdb, Zcg, Zgo, Zf7, Zd1, Zfn, Zc1, Zi8, left0_nf, shr_nf, Zf2]

def pingM : Msg := { kind := 2, call := 1048577, frm := 1, to := 2, key := 0, slow := false, done := false, place := 0, pred := 0, list := [], ikey := { data := #[] }, ival := 0, iver := 0, gone := false, code := 0 }
theorem w18 (h : List O) : wc 18 [] h = some (.val (.agg (pingM.cs (.osl false true 0 []))), h) := by
  have b27 := @build27 2 1048577 1 2
  have hcv : ∀ i, wcv 18 i = [] := fun _ => rfl
  have hres : Try.f18.results.toList = [ResultVar.cell 0 27] := rfl
  rw [wc, Zbt rfl Try.func18 rfl]
  simp only [Zbi, List.length_cons, List.length_nil, Nat.reduceAdd, Nat.reduceSub, List.replicate, List.nil_append, Zaj, Zaz, Za3, Zae, Zao, Za9, Zce, Option.bind_some, ne_eq, reduceCtorEq, not_false_eq_true, implies_true, Bool.false_eq_true, Option.map_some, List.set_cons_succ, List.set_cons_zero, List.getD_cons_succ, List.getD_cons_zero, Zbo, List.any_cons, List.any_nil, Zb3, Zds, ↓reduceIte, Zdz, Zdv, Zbc, Za4, Zaq, Zac, Zaw, Zap, Zan, Zb0, Zab, Zaa, Zdy, Zat, Zbm, Zcx, Zg6, List.forall_mem_cons, List.not_mem_nil, false_imp_iff, and_self, List.append_nil, Zas, Zbg, Zeu, Zad, Zb4, Zb1, Zb9, Zbs, Zcq, Zb2, List.take_succ_cons, List.take_zero, List.drop_succ_cons, List.drop_zero, List.map_cons, List.map_nil, Bool.or_self, Nat.zero_add, Nat.le_refl, sz27, ag27, Za1 (hcv _), Try.ntmps18, hres, zo27, List.zip_cons_cons, List.zip_nil_right, b27, Msg.cs, pingM]
end Go.Abs
