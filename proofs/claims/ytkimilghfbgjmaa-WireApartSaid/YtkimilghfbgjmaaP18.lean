/-
  MORE RULES: heavy ones in regions whose order is open. WIRE: may a message be? MORE RULES: loops over functions, rounds. WIRE: slices.Contains, the list of a message. WIRE: the list of a message. No condition.
-/
import Derived.Test.YtkimilghfbgjmaaP17

namespace Go.Abs

section
variable {P : Program} {pr : FuncId → List D → Option D} {cv : FuncId → Nat → List Cv} {β : Type} {k : X × St → Option β} {all : Array Oper} {hs : List (Nat × List O)} {ag : List Again} {rest : List Todo} {i bf : Nat} {nm mv : List Tmp} {rds : Bool} {s : St}

open Classical in
/-- Behind a heavy one. -/
noncomputable def kdE (P : Program) (pr : FuncId → List D → Option D) (cv : FuncId → Nat → List Cv) (all : Array Oper) (i bf : Nat) (rest : List Todo) (hs : List (Nat × List O)) (ag : List Again) (h0 : List O) (dst : Option Tmp) (k : X × St → Option β) (r : Option (Out × St)) : Option β :=
  match r with
  | some (.val d, s1) => if againOk P bf s1.h ag then kd P pr cv all rest ((i, h0) :: hs) ag (s1.put dst d) k else none
  | _ => none
noncomputable def kdC (P : Program) (pr : FuncId → List D → Option D) (cv : FuncId → Nat → List Cv) (all : Array Oper) (i bf : Nat) (rest : List Todo) (hs : List (Nat × List O)) (ag : List Again) (h0 : List O) (dst : Option Tmp) (s1 : St) (k : X × St → Option β) (r : Option (Out × List O)) : Option β :=
  match r with
  | some (.val d, h) => kdE P pr cv all i bf rest hs ag h0 dst k (some (.val d, { s1 with h := h }))
  | _ => none
noncomputable def kdK (P : Program) (pr : FuncId → List D → Option D) (cv : FuncId → Nat → List Cv) (all : Array Oper) (i bf : Nat) (rest : List Todo) (hs : List (Nat × List O)) (ag : List Again) (o : Oper) (s : St) (k : X × St → Option β) : Option β :=
  match kindOf o s with
  | .bad => none
  | .go g args s1 => kdC P pr cv all i bf rest hs ag s.h o.dst s1 k (call P pr cv g args s1.h)
  | .other => kdE P pr cv all i bf rest hs ag s.h o.dst k (exOp P [] o s)
noncomputable def kdHO (P : Program) (pr : FuncId → List D → Option D) (cv : FuncId → Nat → List Cv) (all : Array Oper) (td : Todo) (rest : List Todo) (hs : List (Nat × List O)) (ag : List Again) (s : St) (k : X × St → Option β) (o : Option Oper) : Option β :=
  match o with
  | some o => if want all o s then (if calmAt td s.t then kdK P pr cv all td.i td.bf rest hs ag o s k else none) else kd P pr cv all rest hs ag (s.put o.dst undefD) k
  | none => none
theorem kd_h : kd P pr cv all (⟨i, true, rds, bf, nm, mv⟩ :: rest) hs ag s k = kdHO P pr cv all ⟨i, true, rds, bf, nm, mv⟩ rest hs ag s k all[i]? := by
  cases ho : all[i]? with
  | none => unfold kd; rw [exDraw]; simp [ho, kdHO]
  | some o =>
    cases hw : want all o s with
    | false => rw [kd_skip ho hw]; simp [kdHO, hw]
    | true =>
      simp only [kdHO, hw, if_true]
      by_cases hc : calmAt ⟨i, true, rds, bf, nm, mv⟩ s.t = true
      · rw [if_pos hc]
        unfold kdK
        cases hk : kindOf o s with
        | bad => unfold kd; rw [exDraw]; simp [ho, hw, hc, hk]
        | go g args s1 =>
          simp only
          cases hx : call P pr cv g args s1.h with
          | none => unfold kd; rw [exDraw]; simp [ho, hw, hc, hk, hx, kdC]
          | some r =>
            obtain ⟨out, h⟩ := r
            cases out with
            | val d =>
              by_cases ha : againOk P bf h ag
              · rw [kd_call ho hw hc hk hx ha]; simp [kdC, kdE, ha]
              · unfold kd; rw [exDraw]; simp [ho, hw, hc, hk, hx, kdC, kdE, ha]
            | pan d => unfold kd; rw [exDraw]; simp [ho, hw, hc, hk, hx, kdC]
            | rcv d => unfold kd; rw [exDraw]; simp [ho, hw, hc, hk, hx, kdC]
        | other =>
          simp only
          cases hx : exOp P [] o s with
          | none => unfold kd; rw [exDraw]; simp [ho, hw, hc, hk, hx, kdE]
          | some r =>
            obtain ⟨out, s1⟩ := r
            cases out with
            | val d =>
              by_cases ha : againOk P bf s1.h ag
              · rw [kd_oper ho hw hc hk hx ha]; simp [kdE, ha]
              · unfold kd; rw [exDraw]; simp [ho, hw, hc, hk, hx, kdE, ha]
            | pan d => unfold kd; rw [exDraw]; simp [ho, hw, hc, hk, hx, kdE]
            | rcv d => unfold kd; rw [exDraw]; simp [ho, hw, hc, hk, hx, kdE]
      · rw [if_neg hc]
        unfold kd; rw [exDraw]; simp [ho, hw, hc]

section
variable {dst : Option Tmp} {op : Op} {ty : TypeId} {pos : String} {af : Array Edge} {tl : List D} {df : List (FuncId × List D)} {r : Rc} {h h0 : List O} {td : Todo}
theorem kdHO_some : kdHO P pr cv all td rest hs ag ⟨tl, df, r, h⟩ k (some ⟨dst, op, ty, pos, af, none⟩) = if calmAt td tl then kdK P pr cv all td.i td.bf rest hs ag ⟨dst, op, ty, pos, af, none⟩ ⟨tl, df, r, h⟩ k else none := by simp [kdHO, want]
noncomputable def kdT (P : Program) (pr : FuncId → List D → Option D) (cv : FuncId → Nat → List Cv) (f : FuncId) (all : Array Oper) (i bf : Nat) (rest : List Todo) (hs : List (Nat × List O)) (ag : List Again) (h0 : List O) (dst : Option Tmp) (k : X × St → Option β) (r : Option (List D × St)) : Option β :=
  match r with
  | some (ds, s1) => kdC P pr cv all i bf rest hs ag h0 dst s1 k (call P pr cv (.fn f) ds s1.h)
  | none => none
theorem kdT_some {f : FuncId} {ds : List D} : kdT P pr cv f all i bf rest hs ag h0 dst k (some (ds, ⟨tl, df, r, h⟩)) = kdC P pr cv all i bf rest hs ag h0 dst ⟨tl, df, r, h⟩ k (call P pr cv (.fn f) ds h) := rfl
theorem kdK_func {f : FuncId} {args : Array Operand} {ats : Array TypeId} : kdK P pr cv all i bf rest hs ag ⟨dst, .call { callee := .value (.func f), args := args, argTypes := ats }, ty, pos, af, none⟩ ⟨tl, df, r, h⟩ k = kdT P pr cv f all i bf rest hs ag h dst k (tks ⟨tl, df, r, h⟩ args.toList) := by
  unfold kdK kdT
  cases ht : tks ⟨tl, df, r, h⟩ args.toList with
  | none => simp [kindOf, rd, ht]
  | some r => obtain ⟨ds, s1⟩ := r; simp [kindOf, rd, ht, noOwn]
def gIs (v : D) (b : Bool) : Bool := match v with | .e (.bool c) => c == b | _ => false
theorem want_gIs {j t : Nat} {b : Bool} (hj : (all[j]?).bind (·.dst) = some t) (ht : t < tl.length) : want all ⟨dst, op, ty, pos, af, some (j, b)⟩ ⟨tl, df, r, h⟩ = gIs (tl.getD t undefD) b := by
  simp only [want, hj, gIs]
  rw [List.getD_eq_getElem?_getD, List.getElem?_eq_getElem ht]
  simp only [Option.getD_some]
  cases tl[t] with
  | e x => cases x <;> rfl
  | _ => rfl
noncomputable def kdLG (P : Program) (pr : FuncId → List D → Option D) (cv : FuncId → Nat → List Cv) (v : D) (b : Bool) (all : Array Oper) (rest : List Todo) (hs : List (Nat × List O)) (ag : List Again) (o : Oper) (s : St) (k : X × St → Option β) : Option β :=
  if gIs v b then kdL P pr cv all rest hs ag s k (some { o with guard := none }) else kd P pr cv all rest hs ag (s.put o.dst undefD) k
theorem kdL_g {j t : Nat} {b : Bool} (hj : (all[j]?).bind (·.dst) = some t) (ht : t < tl.length) :
    kdL P pr cv all rest hs ag ⟨tl, df, r, h⟩ k (some ⟨dst, op, ty, pos, af, some (j, b)⟩) = kdLG P pr cv (tl.getD t undefD) b all rest hs ag ⟨dst, op, ty, pos, af, none⟩ ⟨tl, df, r, h⟩ k := by
  have hx : exLight P ⟨dst, op, ty, pos, af, some (j, b)⟩ ⟨tl, df, r, h⟩ = exLight P ⟨dst, op, ty, pos, af, none⟩ ⟨tl, df, r, h⟩ := rfl
  simp only [kdL, kdLG, want_gIs hj ht, hx]
  cases gIs (tl.getD t undefD) b <;> simp [want]
theorem kdLG_yes {o : Oper} {c b : Bool} (hc : c = b) : kdLG P pr cv (.e (.bool c)) b all rest hs ag o s k = kdL P pr cv all rest hs ag s k (some { o with guard := none }) := by simp [kdLG, gIs, hc]
theorem kdLG_no {o : Oper} {c b : Bool} (hc : c = !b) : kdLG P pr cv (.e (.bool c)) b all rest hs ag o s k = kd P pr cv all rest hs ag (s.put o.dst undefD) k := by cases c <;> cases b <;> simp_all [kdLG, gIs]
noncomputable def kdRG (P : Program) (pr : FuncId → List D → Option D) (cv : FuncId → Nat → List Cv) (v : D) (b : Bool) (all : Array Oper) (i bf : Nat) (rest : List Todo) (hs : List (Nat × List O)) (ag : List Again) (o0 o : Oper) (s : St) (k : X × St → Option β) : Option β :=
  if gIs v b then kdR P pr cv all i bf rest hs ag o0 s k (exLight P o s) else kd P pr cv all rest hs ag (s.put o.dst undefD) k
theorem kdRO_g {j t : Nat} {b : Bool} (hj : (all[j]?).bind (·.dst) = some t) (ht : t < tl.length) :
    kdRO P pr cv all i bf rest hs ag ⟨tl, df, r, h⟩ k (some ⟨dst, op, ty, pos, af, some (j, b)⟩) = kdRG P pr cv (tl.getD t undefD) b all i bf rest hs ag ⟨dst, op, ty, pos, af, some (j, b)⟩ ⟨dst, op, ty, pos, af, none⟩ ⟨tl, df, r, h⟩ k := by
  have hx : exLight P ⟨dst, op, ty, pos, af, some (j, b)⟩ ⟨tl, df, r, h⟩ = exLight P ⟨dst, op, ty, pos, af, none⟩ ⟨tl, df, r, h⟩ := rfl
  simp only [kdRO, kdRG, want_gIs hj ht, hx]
theorem kdRG_yes {o0 o : Oper} {c b : Bool} (hc : c = b) : kdRG P pr cv (.e (.bool c)) b all i bf rest hs ag o0 o s k = kdR P pr cv all i bf rest hs ag o0 s k (exLight P o s) := by simp [kdRG, gIs, hc]
theorem kdRG_no {o0 o : Oper} {c b : Bool} (hc : c = !b) : kdRG P pr cv (.e (.bool c)) b all i bf rest hs ag o0 o s k = kd P pr cv all rest hs ag (s.put o.dst undefD) k := by cases c <;> cases b <;> simp_all [kdRG, gIs]
noncomputable def kdHG (P : Program) (pr : FuncId → List D → Option D) (cv : FuncId → Nat → List Cv) (v : D) (b : Bool) (all : Array Oper) (td : Todo) (rest : List Todo) (hs : List (Nat × List O)) (ag : List Again) (o : Oper) (s : St) (k : X × St → Option β) : Option β :=
  if gIs v b then kdHO P pr cv all td rest hs ag s k (some { o with guard := none }) else kd P pr cv all rest hs ag (s.put o.dst undefD) k
theorem kdHO_g {j t : Nat} {b : Bool} (hj : (all[j]?).bind (·.dst) = some t) (ht : t < tl.length) :
    kdHO P pr cv all td rest hs ag ⟨tl, df, r, h⟩ k (some ⟨dst, op, ty, pos, af, some (j, b)⟩) = kdHG P pr cv (tl.getD t undefD) b all td rest hs ag ⟨dst, op, ty, pos, af, none⟩ ⟨tl, df, r, h⟩ k := by
  have hx : kdK P pr cv all td.i td.bf rest hs ag ⟨dst, op, ty, pos, af, some (j, b)⟩ ⟨tl, df, r, h⟩ k = kdK P pr cv all td.i td.bf rest hs ag ⟨dst, op, ty, pos, af, none⟩ ⟨tl, df, r, h⟩ k := rfl
  simp only [kdHO, kdHG, want_gIs hj ht, hx]
  cases gIs (tl.getD t undefD) b <;> simp [want]
theorem kdHG_yes {o : Oper} {c b : Bool} (hc : c = b) : kdHG P pr cv (.e (.bool c)) b all td rest hs ag o s k = kdHO P pr cv all td rest hs ag s k (some { o with guard := none }) := by simp [kdHG, gIs, hc]
theorem kdHG_no {o : Oper} {c b : Bool} (hc : c = !b) : kdHG P pr cv (.e (.bool c)) b all td rest hs ag o s k = kd P pr cv all rest hs ag (s.put o.dst undefD) k := by cases c <;> cases b <;> simp_all [kdHG, gIs]
theorem kdK_op (hk : ∀ c, op ≠ .call c) : kdK P pr cv all i bf rest hs ag ⟨dst, op, ty, pos, af, none⟩ ⟨tl, df, r, h⟩ k = kdE P pr cv all i bf rest hs ag h dst k (exOp P [] ⟨dst, op, ty, pos, af, none⟩ ⟨tl, df, r, h⟩) := by
  unfold kdK
  have : kindOf ⟨dst, op, ty, pos, af, none⟩ ⟨tl, df, r, h⟩ = .other := by
    unfold kindOf; cases op <;> simp_all
  rw [this]
theorem kdC_val {d : D} {h1 : List O} : kdC P pr cv all i bf rest hs ag h0 dst ⟨tl, df, r, h⟩ k (some (.val d, h1)) = kdE P pr cv all i bf rest hs ag h0 dst k (some (.val d, ⟨tl, df, r, h1⟩)) := rfl
open Classical in
theorem kdE_val {d : D} {x : Tmp} : kdE P pr cv all i bf rest hs ag h0 (some x) k (some (.val d, ⟨tl, df, r, h⟩)) = if againOk P bf h ag then kd P pr cv all rest ((i, h0) :: hs) ag ⟨tl.set x d, df, r, h⟩ k else none := rfl
open Classical in
theorem kdE_val0 {d : D} : kdE P pr cv all i bf rest hs ag h0 none k (some (.val d, ⟨tl, df, r, h⟩)) = if againOk P bf h ag then kd P pr cv all rest ((i, h0) :: hs) ag ⟨tl, df, r, h⟩ k else none := rfl
theorem calmAt_eq {n : Nat} {a b : Bool} {bf : Nat} {nm mv : List Tmp} {t : List D} : calmAt ⟨n, a, b, bf, nm, mv⟩ t = (nm.all (fun x => !ownD (t.getD x undefD)) && mv.all (fun x => !excD (t.getD x undefD))) := rfl
theorem again_nil : againOk P bf h [] = True := eq_true (fun a ha => by simp at ha)
theorem again_cons {a : Again} {ag : List Again} : againOk P bf h (a :: ag) = ((bf.testBit a.i = false → exLight P a.o { t := a.t, d := [], r := .no, h := h } = some a.d) ∧ againOk P bf h ag) := by
  simp only [againOk, List.mem_cons, forall_eq_or_imp]
theorem same_nil {o : Oper} {t : List D} {d : D} : sameBack P o bf t d [] = True := eq_true (fun a ha => by simp at ha)
theorem same_cons {o : Oper} {t : List D} {d : D} {x : Nat × List O} {hs : List (Nat × List O)} : sameBack P o bf t d (x :: hs) = ((bf.testBit x.1 = false → exLight P o { t := t, d := [], r := .no, h := x.2 } = some d) ∧ sameBack P o bf t d hs) := by
  simp only [sameBack, List.mem_cons, forall_eq_or_imp]
open Classical in
theorem kdR_cons {o : Oper} {d : D} {x : Nat × List O} : kdR P pr cv all i bf rest (x :: hs) ag o s k (some d) = if sameBack P o bf s.t d (x :: hs) then kd P pr cv all rest (x :: hs) ({ i := i, o := o, t := s.t, d := d } :: ag) (s.put o.dst d) k else none := rfl
theorem excD_e {x : E} : excD (.e x) = false := of_decide_eq_true rfl
theorem Rd.excD {d : D} {es : List (List E)} (h : Rd d es) : excD d = false := by
  have h1 := h.own
  have h2 := h.sl
  cases d <;> simp_all [own0, Abs.excD, exc0, slOf]
end
end

end Go.Abs

namespace Go.Abs
open Go Go.Proofs
set_option maxRecDepth 10000
set_option maxHeartbeats 4000000

/-- A message's head alone. -/
def Msg.head (m : Msg) : Msg := { kind := m.kind, call := m.call, frm := m.frm, to := m.to, key := 0, slow := false, done := false, place := 0, pred := 0, list := [], ikey := { data := #[] }, ival := 0, iver := 0, gone := false, code := 0 }
def Msg.asker (m : Msg) : Int := if asks m.kind then m.frm else m.to
def Msg.first (m : Msg) : Int := IntKind.i64.wrap (IntKind.i64.wrap (m.asker * 1048576) + 1)
/-- What the reference's Right tells. -/
noncomputable def Msg.right6 (m : Msg) : Bool :=
  !decide (m.kind < 1) && (!decide (13 ≤ m.kind) && (isPlace m.frm && (isPlace m.to && (!(m.frm == m.to) && (!decide (m.call < m.first) && (!decide (IntKind.i64.wrap (m.first + 1048576) ≤ m.call) &&
    ((decide (m.bare.list = m.head.list) && sameCs m.bare m.head) && m.has)))))))

theorem w10 (m : Msg) (l : D) (hl : Rd l (isE m.list)) (hx : m.list.length ≤ 1099511627776) (h : List O) : wc 10 [.agg (m.cs l)] h = some (.val (.bool m.right6), h) := by
  have h21 := w21 m l hl
  have h22 := w22 m l hl
  have h23 := w23 m l hl hx
  have hbl := bareL_rd (m := m) hl
  have hbx : m.bare.list.length ≤ 1099511627776 := by
    unfold Msg.bare; repeat' split
    all_goals first | exact hx | simp [Msg.noItem]; exact hx | simp
  have h13 := w13 m.bare m.head (bareL m l) (.osl false true 0 []) hbl Rd.osl hbx
  generalize hr' : (decide (m.bare.list = m.head.list) && sameCs m.bare m.head) = same at h13
  simp only [Msg.cs] at h21 h22 h23 h13
  simp only [Msg.head] at h13
  have hfirst : IntKind.i64.wrap (IntKind.i64.wrap ((if asks m.kind = true then m.frm else m.to) * 1048576) + 1) = m.first := rfl
  have hcv : ∀ i, wcv 10 i = [] := fun _ => rfl
  have hres : Try.f10.results.toList = [ResultVar.tmp 2] := rfl
  rw [wc, call_fn rfl Try.func10 rfl]
  simp only [enterT, List.length_cons, List.length_nil, Nat.reduceAdd, Nat.reduceSub, List.replicate, List.cons_append, List.nil_append, kx_seq, kSeq_nrm, ko_nil, ko_op, ko_guard, kR_val, List.getElem?_toArray, List.getElem?_cons_succ, List.getElem?_cons_zero, Option.bind_some, Nat.reduceLT, Nat.reduceLeDiff, ne_eq, reduceCtorEq, not_false_eq_true, implies_true, Bool.false_eq_true, Option.map_some, List.set_cons_succ, List.set_cons_zero, List.getD_cons_succ, List.getD_cons_zero, own_e, own_agg, List.any_cons, List.any_nil, own0_e, ↓reduceIte, exO_move_tmp, exO_assign, exO_binOp, exO_box, exO_fieldAddr, tk_plain, tk_const, rd_tmp, rd_const, ofV_int, ofV_bool, binD_lss, Int.reduceLT, arith_lss, Option.some.injEq, Prod.mk.injEq, gc_app0, gc_hd, adOf_ptr, adD_ob, add_ob, cellsOf_agg, notTup_agg, load1, fieldAddrD, exO_load, Bool.or_self, Nat.add_zero, Nat.zero_add, Nat.succ_ne_zero, sz5, ag5, st27, kx_region (hcv _), Try.ntmps10, Msg.cs, hl.own]
  cases h1 : decide (m.kind < 1)
  rotate_left
  · simp only [List.length_cons, List.length_nil, Nat.reduceAdd, kx_seq, kx_ret, kx_cond_tmp, kCond_true, kSeq_nrm, kSeq_ret, ko_nil, ko_op, ko_guard, kR_val, kG_no, St.put, List.getElem?_toArray, List.getElem?_cons_succ, List.getElem?_cons_zero, Option.bind_some, Nat.reduceLT, ne_eq, reduceCtorEq, not_false_eq_true, implies_true, Bool.not_true, Bool.not_false, Option.map_some, List.set_cons_succ, List.set_cons_zero, List.getD_cons_succ, List.getD_cons_zero, own_e, ↓reduceIte, exO_move_tmp, exO_assign, exO_pick, tk_plain, tk_const, sh_const, rd_tmp, ofV_bool, Int.reduceLT, kF_ret, leave_eq, resD_nil, resD_tmp, tupD_one, fit_e, Option.some.injEq, Prod.mk.injEq, gc_more, Bool.false_and, Nat.zero_add, kx_region (hcv _), hres, h1, Msg.right6]
  simp only [List.length_cons, List.length_nil, Nat.reduceAdd, ko_op, ko_guard, kR_val, kG_yes, List.getElem?_toArray, List.getElem?_cons_succ, List.getElem?_cons_zero, Option.bind_some, Nat.reduceLT, Nat.reduceLeDiff, ne_eq, reduceCtorEq, not_false_eq_true, implies_true, Bool.false_eq_true, Option.map_some, List.set_cons_succ, List.set_cons_zero, List.getD_cons_succ, List.getD_cons_zero, own_e, own0_e, ↓reduceIte, exO_move_tmp, exO_binOp, exO_pick, exO_fieldAddr, sh_plain, rd_tmp, rd_const, ofV_int, binD_geq, Int.reduceLT, arith_geq, Option.some.injEq, Prod.mk.injEq, gc_app0, gc_hd, adOf_ptr, adD_ob, add_ob, load1, fieldAddrD, exO_load, Nat.add_zero, Nat.zero_add, Nat.succ_ne_zero, sz5, ag5, st27]
  cases h2 : decide (13 ≤ m.kind)
  rotate_left
  · simp only [List.length_cons, List.length_nil, Nat.reduceAdd, kx_seq, kx_ret, kx_cond_tmp, kCond_true, kSeq_nrm, kSeq_ret, ko_nil, ko_op, ko_guard, kR_val, kG_no, St.put, List.getElem?_toArray, List.getElem?_cons_succ, List.getElem?_cons_zero, Option.bind_some, Nat.reduceLT, ne_eq, reduceCtorEq, not_false_eq_true, implies_true, Bool.not_true, Bool.not_false, Option.map_some, List.set_cons_succ, List.set_cons_zero, List.getD_cons_succ, List.getD_cons_zero, own_e, ↓reduceIte, exO_move_tmp, exO_assign, exO_pick, tk_plain, tk_const, sh_const, rd_tmp, ofV_bool, Int.reduceLT, kF_ret, leave_eq, resD_nil, resD_tmp, tupD_one, fit_e, Option.some.injEq, Prod.mk.injEq, gc_more, Bool.and_false, Bool.false_and, Nat.zero_add, kx_region (hcv _), hres, h2, h1, Msg.right6]
  simp only [List.length_cons, List.length_nil, Nat.reduceAdd, ko_op, ko_func, kT_some, ko_guard, kR_val, kC_val, kG_yes, List.getElem?_toArray, List.getElem?_cons_succ, List.getElem?_cons_zero, Option.bind_some, Nat.reduceLT, Nat.reduceLeDiff, ne_eq, reduceCtorEq, not_false_eq_true, implies_true, Bool.false_eq_true, Option.map_some, List.set_cons_succ, List.set_cons_zero, List.getD_cons_succ, List.getD_cons_zero, own_e, own0_e, ↓reduceIte, exO_move_tmp, exO_unOp, exO_pick, exO_fieldAddr, tk_plain, sh_plain, rd_tmp, tks_nil, tks_cons, Int.reduceLT, unD_not, Option.some.injEq, Prod.mk.injEq, gc_app0, gc_hd, adOf_ptr, adD_ob, add_ob, load1, fieldAddrD, exO_load, Nat.zero_add, Nat.succ_ne_zero, sz3, ag3, st27, w20]
  cases h3 : isPlace m.frm
  · simp only [List.length_cons, List.length_nil, Nat.reduceAdd, kx_seq, kx_ret, kx_cond_tmp, kCond_true, kSeq_nrm, kSeq_ret, ko_nil, ko_op, ko_guard, kR_val, kG_no, St.put, List.getElem?_toArray, List.getElem?_cons_succ, List.getElem?_cons_zero, Option.bind_some, Nat.reduceLT, ne_eq, reduceCtorEq, not_false_eq_true, implies_true, Bool.not_false, Option.map_some, List.set_cons_succ, List.set_cons_zero, List.getD_cons_succ, List.getD_cons_zero, own_e, ↓reduceIte, exO_move_tmp, exO_assign, exO_pick, tk_plain, tk_const, sh_const, rd_tmp, ofV_bool, Int.reduceLT, kF_ret, leave_eq, resD_nil, resD_tmp, tupD_one, fit_e, Option.some.injEq, Prod.mk.injEq, gc_more, Bool.and_false, Bool.false_and, Nat.zero_add, kx_region (hcv _), hres, h3, h2, h1, Msg.right6]
  simp only [List.length_cons, List.length_nil, Nat.reduceAdd, ko_op, ko_func, kT_some, ko_guard, kR_val, kC_val, kG_yes, List.getElem?_toArray, List.getElem?_cons_succ, List.getElem?_cons_zero, Option.bind_some, Nat.reduceLT, Nat.reduceLeDiff, ne_eq, reduceCtorEq, not_false_eq_true, implies_true, Bool.not_true, Bool.false_eq_true, Option.map_some, List.set_cons_succ, List.set_cons_zero, List.getD_cons_succ, List.getD_cons_zero, own_e, own0_e, ↓reduceIte, exO_move_tmp, exO_unOp, exO_pick, exO_fieldAddr, tk_plain, sh_plain, rd_tmp, tks_nil, tks_cons, Int.reduceLT, unD_not, Option.some.injEq, Prod.mk.injEq, gc_app0, gc_hd, adOf_ptr, adD_ob, add_ob, load1, fieldAddrD, exO_load, Nat.zero_add, Nat.succ_ne_zero, sz3, ag3, st27, w20]
  cases h4 : isPlace m.to
  · simp only [List.length_cons, List.length_nil, Nat.reduceAdd, kx_seq, kx_ret, kx_cond_tmp, kCond_true, kSeq_nrm, kSeq_ret, ko_nil, ko_op, ko_guard, kR_val, kG_no, St.put, List.getElem?_toArray, List.getElem?_cons_succ, List.getElem?_cons_zero, Option.bind_some, Nat.reduceLT, ne_eq, reduceCtorEq, not_false_eq_true, implies_true, Bool.not_false, Option.map_some, List.set_cons_succ, List.set_cons_zero, List.getD_cons_succ, List.getD_cons_zero, own_e, ↓reduceIte, exO_assign, exO_pick, tk_plain, tk_const, sh_const, rd_tmp, ofV_bool, Int.reduceLT, kF_ret, leave_eq, resD_nil, resD_tmp, tupD_one, fit_e, Option.some.injEq, Prod.mk.injEq, gc_more, Bool.and_false, Bool.false_and, Nat.zero_add, kx_region (hcv _), hres, h4, h3, h2, h1, Msg.right6]
  simp only [List.length_cons, List.length_nil, Nat.reduceAdd, kx_cond_tmp, kSeq_nrm, ko_nil, ko_op, ko_guard, kR_val, kG_yes, List.getElem?_toArray, List.getElem?_cons_succ, List.getElem?_cons_zero, Option.bind_some, Nat.reduceLT, Nat.reduceLeDiff, ne_eq, reduceCtorEq, not_false_eq_true, implies_true, Bool.not_true, Bool.false_eq_true, Option.map_some, List.set_cons_succ, List.set_cons_zero, List.getD_cons_succ, List.getD_cons_zero, own_e, own0_e, ↓reduceIte, exO_binOp, exO_pick, exO_fieldAddr, sh_plain, rd_tmp, binD_eql, Int.reduceLT, arith_eql, Option.some.injEq, Prod.mk.injEq, gc_app0, gc_hd, adOf_ptr, adD_ob, add_ob, load1, fieldAddrD, exO_load, Nat.zero_add, Nat.succ_ne_zero, sz3, ag3, st27]
  cases h5 : m.frm == m.to
  rotate_left
  · simp only [kx_seq, kx_ret, kCond_true, kSeq_nrm, kSeq_ret, ko_nil, ko_op, kR_val, ne_eq, reduceCtorEq, not_false_eq_true, implies_true, Bool.not_true, Bool.not_false, Option.map_some, List.set_cons_succ, List.set_cons_zero, List.getD_cons_succ, List.getD_cons_zero, own_e, exO_assign, tk_plain, tk_const, ofV_bool, kF_ret, leave_eq, resD_nil, resD_tmp, tupD_one, fit_e, gc_more, Bool.and_false, Bool.false_and, kx_region (hcv _), hres, h5, h4, h3, h2, h1, Msg.right6]
  simp only [List.length_cons, List.length_nil, Nat.reduceAdd, kx_seq, kx_skip, kCond_false, kSeq_nrm, ko_nil, ko_op, ko_func, kT_some, ko_guard, kR_val, kC_val, List.getElem?_toArray, List.getElem?_cons_succ, List.getElem?_cons_zero, Option.bind_some, Nat.reduceLT, Nat.reduceLeDiff, ne_eq, reduceCtorEq, not_false_eq_true, implies_true, Bool.false_eq_true, Option.map_some, List.set_cons_succ, List.set_cons_zero, List.getD_cons_succ, List.getD_cons_zero, own_e, own_agg, List.any_cons, List.any_nil, own0_e, ↓reduceIte, exO_move_tmp, exO_assign, exO_binOp, exO_fieldAddr, tk_plain, rd_tmp, rd_const, tks_nil, tks_cons, ofV_int, binD_add, binD_mul, binD_lss, Int.reduceLT, arith_add, arith_mul, arith_lss, Option.some.injEq, Prod.mk.injEq, gc_app0, gc_hd, adOf_ptr, adD_ob, add_ob, load1, List.take_succ_cons, List.take_zero, List.drop_zero, fieldAddrD, exO_load, Bool.or_self, Nat.zero_add, Nat.succ_ne_zero, Nat.le_refl, sz3, sz27, ag3, ag27, st27, kx_region (hcv _), hl.own, h21, hfirst]
  cases h6 : decide (m.call < m.first)
  rotate_left
  · simp only [List.length_cons, List.length_nil, Nat.reduceAdd, kx_seq, kx_ret, kx_cond_tmp, kCond_true, kSeq_nrm, kSeq_ret, ko_nil, ko_op, ko_guard, kR_val, kG_no, St.put, List.getElem?_toArray, List.getElem?_cons_succ, List.getElem?_cons_zero, Option.bind_some, Nat.reduceLT, ne_eq, reduceCtorEq, not_false_eq_true, implies_true, Bool.not_true, Bool.not_false, Option.map_some, List.set_cons_succ, List.set_cons_zero, List.getD_cons_succ, List.getD_cons_zero, own_e, ↓reduceIte, exO_assign, exO_pick, tk_plain, tk_const, sh_const, rd_tmp, ofV_bool, Int.reduceLT, kF_ret, leave_eq, resD_nil, resD_tmp, tupD_one, fit_e, Option.some.injEq, Prod.mk.injEq, gc_more, Bool.and_false, Bool.false_and, Nat.zero_add, kx_region (hcv _), hres, h6, h5, h4, h3, h2, h1, Msg.right6]
  simp only [List.length_cons, List.length_nil, Nat.reduceAdd, kx_cond_tmp, kSeq_nrm, ko_nil, ko_op, ko_guard, kR_val, kG_yes, List.getElem?_toArray, List.getElem?_cons_succ, List.getElem?_cons_zero, Option.bind_some, Nat.reduceLT, Nat.reduceLeDiff, ne_eq, reduceCtorEq, not_false_eq_true, implies_true, Bool.false_eq_true, Option.map_some, List.set_cons_succ, List.set_cons_zero, List.getD_cons_succ, List.getD_cons_zero, own_e, own0_e, ↓reduceIte, exO_move_tmp, exO_binOp, exO_pick, exO_fieldAddr, sh_plain, rd_tmp, rd_const, ofV_int, binD_add, binD_geq, Int.reduceLT, arith_add, arith_geq, Option.some.injEq, Prod.mk.injEq, gc_app0, gc_hd, adOf_ptr, adD_ob, add_ob, load1, fieldAddrD, exO_load, Nat.zero_add, Nat.succ_ne_zero, sz3, ag3, st27]
  cases h7 : decide (IntKind.i64.wrap (m.first + 1048576) ≤ m.call)
  rotate_left
  · simp only [kx_seq, kx_ret, kCond_true, kSeq_nrm, kSeq_ret, ko_nil, ko_op, kR_val, ne_eq, reduceCtorEq, not_false_eq_true, implies_true, Bool.not_true, Bool.not_false, Option.map_some, List.set_cons_succ, List.set_cons_zero, List.getD_cons_succ, List.getD_cons_zero, own_e, exO_assign, tk_plain, tk_const, ofV_bool, kF_ret, leave_eq, resD_nil, resD_tmp, tupD_one, fit_e, gc_more, Bool.and_false, Bool.false_and, kx_region (hcv _), hres, h7, h6, h5, h4, h3, h2, h1, Msg.right6]
  simp only [List.length_cons, List.length_nil, Nat.reduceAdd, List.cons_append, List.nil_append, kx_seq, kx_skip, kCond_false, kSeq_nrm, ko_nil, ko_op, kR_val, kR_val0, List.getElem?_cons_succ, List.getElem?_cons_zero, Option.bind_some, Nat.reduceLeDiff, ne_eq, reduceCtorEq, not_false_eq_true, implies_true, Bool.false_eq_true, Option.map_some, List.set_cons_succ, List.set_cons_zero, List.getD_cons_succ, List.getD_cons_zero, own_e, own_agg, List.any_cons, List.any_nil, own0_e, own0_osl, ↓reduceIte, exO_alloc, exO_build, exO_store, exO_fieldAddr, tk_plain, rd_tmp, tks_nil, tks_cons, and_self, List.append_nil, gc_app0, gc_appn, gc_hd, gc_tl, hsetn, hlen, hpush, adOf_ptr, adD_ob, add_ob, putAt_eq', cellsOf_agg, notTup_agg, load1, store1, List.take_zero, List.drop_succ_cons, List.drop_zero, List.map_cons, List.map_nil, fieldAddrD, exO_load, Bool.or_self, Nat.add_zero, Nat.zero_add, Nat.succ_ne_zero, Nat.le_refl, sz3, sz5, sz27, ag3, ag5, st27, kx_region (hcv _), zo27, build27, List.zip_cons_cons, List.zip_nil_right]
  refine (kx_draw (l := plan10_7) (by exact plan10_7_eq)).trans ?_
  simp only [List.length_cons, List.length_nil, Nat.reduceAdd, St.put, List.getElem?_toArray, List.getElem?_cons_succ, List.getElem?_cons_zero, Option.bind_some, Nat.reduceLT, ne_eq, reduceCtorEq, not_false_eq_true, implies_true, Bool.not_false, Bool.false_eq_true, List.set_cons_succ, List.set_cons_zero, List.getD_cons_succ, List.getD_cons_zero, own_e, own_undef, own_agg, own_ptr, List.any_cons, List.any_nil, own0_e, own0_osl, ↓reduceIte, tk_plain, rd_tmp, tks_nil, tks_cons, Int.reduceLT, and_self, Option.some.injEq, Prod.mk.injEq, kd_l, kdL_some, kdV_some, kd_r, kdRO_some, kdR_nil, sealD_plain, preSeal_nil, preSeal_move, preSeal_other, exL_move, exL_load, exLd_ob, exc0_e, exc0_osl, shr0_e, shr0_osl, preCv, List.foldl_nil, gc_app0, gc_appn, gc_hd, gc_tl, adOf_ptr, List.take_succ_cons, List.take_zero, List.drop_zero, List.map_cons, List.map_nil, Bool.or_self, Nat.zero_add, Nat.le_refl, sz27, ag27, hcv, kd_h, kdHO_some, kdRO_g, kdT_some, kdK_func, kdC_val, kdE_val, calmAt_eq, again_nil, again_cons, same_nil, same_cons, kdR_cons, List.all_cons, List.all_nil, Bool.and_self, plan10_7, hl.own, hl.exc, hl.shr, h22, h13, hbl.own, hbl.exc]
  cases same
  · simp only [List.length_cons, List.length_nil, Nat.reduceAdd, kx_ret, kSeq_nrm, St.put, List.getElem?_toArray, List.getElem?_cons_succ, List.getElem?_cons_zero, Option.bind_some, Nat.reduceLT, ne_eq, reduceCtorEq, not_false_eq_true, implies_true, Bool.not_true, Bool.not_false, Bool.false_eq_true, Option.map_some, List.set_cons_succ, List.set_cons_zero, List.getD_cons_succ, List.getD_cons_zero, own_e, own_undef, List.any_cons, List.any_nil, ↓reduceIte, exO_assign, exO_pick, tk_plain, sh_const, rd_tmp, ofV_bool, Int.reduceLT, kF_ret, leave_eq, resD_nil, resD_tmp, tupD_one, fit_e, and_self, List.toList_toArray, Option.some.injEq, Prod.mk.injEq, kd_nil, kd_l, kdL_some, kdV_some, exL_gen, exL_load, exLd_ob, outV_some, ownOp_tmp, ownOp_const, lo_pick, Op.operands, Call.operands, exc0_e, exc0_osl, shr0_e, shr0_osl, gc_app0, gc_appn, gc_hd, gc_tl, adOf_ptr, gc_more, List.take_succ_cons, List.take_zero, List.drop_zero, List.map_cons, List.map_nil, Bool.or_self, Bool.and_false, Bool.false_and, Nat.zero_add, Nat.le_refl, sz27, ag27, hres, kd_h, kdHO_some, kdRG_no, kdHO_g, kdHG_no, kdK_op, kdE_val, calmAt_eq, again_nil, again_cons, List.all_nil, Bool.and_self, hl.exc, hl.shr, Msg.right6, h1, h2, h3, h4, h5, h6, h7, hr']
  · simp only [List.length_cons, List.length_nil, Nat.reduceAdd, kx_ret, kSeq_nrm, St.put, List.getElem?_toArray, List.getElem?_cons_succ, List.getElem?_cons_zero, Option.bind_some, Nat.reduceLT, ne_eq, reduceCtorEq, not_false_eq_true, implies_true, Bool.not_false, Bool.false_eq_true, Option.map_some, List.set_cons_succ, List.set_cons_zero, List.getD_cons_succ, List.getD_cons_zero, own_e, own_agg, List.any_cons, List.any_nil, own0_e, ↓reduceIte, exO_assign, exO_pick, tk_plain, sh_plain, rd_tmp, tks_nil, tks_cons, Int.reduceLT, kF_ret, leave_eq, resD_nil, resD_tmp, tupD_one, fit_e, and_self, List.toList_toArray, Option.some.injEq, Prod.mk.injEq, true_and, kd_nil, kd_l, kdL_some, kdV_some, exL_gen, exL_load, exLd_ob, outV_some, ownOp_tmp, ownOp_const, lo_pick, Op.operands, Call.operands, exc0_e, exc0_osl, shr0_e, shr0_osl, gc_app0, gc_appn, gc_hd, gc_tl, adOf_ptr, gc_more, List.take_succ_cons, List.take_zero, List.drop_zero, List.map_cons, List.map_nil, Bool.or_self, Bool.true_and, Nat.zero_add, Nat.le_refl, sz27, ag27, hres, kd_h, kdHO_some, kdRG_yes, kdHO_g, kdHG_yes, kdT_some, kdK_func, kdK_op, kdC_val, kdE_val, calmAt_eq, again_nil, again_cons, same_nil, same_cons, kdR_cons, List.all_nil, Bool.and_self, hl.own, hl.exc, hl.shr, h23, Msg.right6, h1, h2, h3, h4, h5, h6, h7, hr']

end Go.Abs

namespace Go.Abs

section
variable {P : Program} {pr : FuncId → List D → Option D} {cv : FuncId → Nat → List Cv} {β : Type} {k : X × St → Option β} {fn : FuncId} {tl : List D} {df : List (FuncId × List D)} {r : Rc} {h : List O} {all : Array Oper} {l : List Oper}

/-- Behind the function that a loop goes over. -/
noncomputable def kRng (s : St) (k : X × St → Option β) (r : Option (Out × List O)) : Option β :=
  (r.bind (loopEnd s)).bind k
theorem kx_range {f : Operand} {ps : Array Tmp} {asg body : Code} {g : FuncId} {first cap : List D} {s : St} (hk : okRnd s = true) (hf : rd s f = some (.func (.func g) first cap)) (hno : (noOwn first && noOwn cap) = true) :
    kx P pr cv fn (.rangeFunc f ps asg body) s k = kRng s k (call P pr cv (.fn g) (first ++ [.func (.yield s.h.length) [] []] ++ cap) (s.h ++ [.loop .ready none fn (s.t.map shrT) ps.toList asg body])) := by
  unfold kx; rw [exec]
  simp only [hk, if_true, hf, hno, kRng]
  cases call P pr cv (.fn g) (first ++ [.func (.yield s.h.length) [] []] ++ cap) (s.h ++ [.loop .ready none fn (s.t.map shrT) ps.toList asg body]) <;> rfl
/-- It ends by itself. -/
theorem kRng_nrm {d : D} {h' : List O} {st : LoopState} {f : FuncId} {env : List D} {ps : List Tmp} {asg body : Code} (hl : h'[h.length]? = some (.loop st none f env ps asg body)) (hs : st ≠ .busy) :
    kRng ⟨tl, df, r, h⟩ k (some (.val d, h')) = k (.nrm, ⟨tl.map kep, df, r, gc h.length h (h'.set h.length .dead) undefD⟩) := by
  simp [kRng, loopEnd, findLoop, hl, hs]
theorem kRng_ret {d : D} {h' : List O} {st : LoopState} {f : FuncId} {env : List D} {ps : List Tmp} {asg body : Code} (hl : h'[h.length]? = some (.loop st (some .ret) f env ps asg body)) (hs : st ≠ .busy) :
    kRng ⟨tl, df, r, h⟩ k (some (.val d, h')) = k (.ret, ⟨tl.map kep, df, r, gc h.length h (h'.set h.length .dead) undefD⟩) := by
  simp [kRng, loopEnd, findLoop, hl, hs]
/-- A call of a value. -/
theorem ko_yield {dst : Option Tmp} {t : Tmp} {args : Array Operand} {ats : Array TypeId} {ty : TypeId} {pos : String} {af : Array Edge} {lp : Nat} {ds : List D} {s1 : St} (hv : tl.getD t undefD = .func (.yield lp) [] []) (ht : tks ⟨tl, df, r, h⟩ args.toList = some (ds, s1)) :
    ko P pr cv all (⟨dst, .call { callee := .value (.tmp t), args := args, argTypes := ats }, ty, pos, af, none⟩ :: l) ⟨tl, df, r, h⟩ k = kC P pr cv all l dst s1 k (call P pr cv (.round lp) ds s1.h) :=
  ko_go rfl (by simp only [kindOf, rd, hv, ht])
/-! ### rounds -/
noncomputable def kBody (P : Program) (pr : FuncId → List D → Option D) (cv : FuncId → Nat → List Cv) (l : Nat) (fn : FuncId) (body : Code) : X × St → Option (Out × List O) := fun r =>
  match r.1, roundBegin l r.2.h with
  | .nrm, some h1 => kx P pr cv fn body ⟨r.2.t, [], .rnd l, h1⟩ (fun q => roundOut l q.1 q.2)
  | _, _ => none
theorem call_round {lp : Nat} {args : List D} {st : LoopState} {pd : Option Code} {env : List D} {ps : List Tmp} {asg body : Code} (hl : h[lp]? = some (.loop st pd fn env ps asg body)) (hps : ps.length = args.length) :
    call P pr cv (.round lp) args h = kx P pr cv fn asg ⟨(ps.zip args).foldl (fun t p => t.set p.1 p.2) env, [], .rnd lp, h⟩ (kBody P pr cv lp fn body) := by
  have hf : findLoop h lp = some (st, pd, fn, env, ps, asg, body) := by simp [findLoop, hl]
  rw [call]
  simp only [hf, hps, if_true]
  unfold kx
  cases hx : exec P pr cv fn asg ⟨(ps.zip args).foldl (fun t p => t.set p.1 p.2) env, [], .rnd lp, h⟩ with
  | none => rfl
  | some q =>
    obtain ⟨x, s1⟩ := q
    simp only [Option.bind_eq_bind, Option.bind_some, kBody]
    cases x <;> cases roundBegin lp s1.h <;> rfl
theorem kBody_nrm {lp : Nat} {pd : Option Code} {f : FuncId} {env : List D} {ps : List Tmp} {asg b body : Code} (hl : h[lp]? = some (.loop .ready pd f env ps asg b)) :
    kBody P pr cv lp fn body (.nrm, ⟨tl, df, r, h⟩) = kx P pr cv fn body ⟨tl, [], .rnd lp, h.set lp (.loop .busy pd f env ps asg b)⟩ (fun q => roundOut lp q.1 q.2) := by
  simp [kBody, roundBegin, findLoop, hl]
theorem rout_nrm {lp : Nat} {st : LoopState} {pd : Option Code} {f : FuncId} {env : List D} {ps : List Tmp} {asg body : Code} (hl : h[lp]? = some (.loop st pd f env ps asg body)) :
    roundOut lp .nrm ⟨tl, [], r, h⟩ = some (.val (.bool true), h.set lp (.loop .ready none f env ps asg body)) := by
  simp [roundOut, roundEnd, findLoop, hl]
theorem rout_ret {lp : Nat} {st : LoopState} {pd : Option Code} {f : FuncId} {env : List D} {ps : List Tmp} {asg body : Code} (hl : h[lp]? = some (.loop st pd f env ps asg body)) :
    roundOut lp .ret ⟨tl, [], r, h⟩ = some (.val (.bool false), h.set lp (.loop .done (some .ret) f env ps asg body)) := by
  simp [roundOut, roundEnd, findLoop, hl]
theorem gc_not {n : Nat} {h h' : List O} {d : D} (hf : ¬ Fit n d) : gc n h h' d = h' := by
  unfold gc; rw [if_neg]; exact fun x => hf x.1
theorem fit_ptr {n i o : Nat} : Fit n (.ptr i o) = (i < n) := propext ⟨fun h => by cases h; assumption, fun h => .ptr i o h⟩
theorem fit_func {n : Nat} {f : FuncId} {ds cs : List D} : Fit n (.func (.func f) ds cs) = ((∀ d ∈ ds, Fit n d) ∧ ∀ d ∈ cs, Fit n d) := propext ⟨fun h => by cases h with | func _ _ _ h1 h2 => exact ⟨h1, h2⟩, fun h => .func f ds cs h.1 h.2⟩
/-- Objects behind that nobody speaks of. -/
theorem gc_set {h ex : List O} {d : D} {i : Nat} {o o' : O} (hf : Fit h.length d) (hi : h[i]? = some o) (ho : FitO h.length o') : gc h.length h (h.set i o' ++ ex) d = h.set i o' := by
  unfold gc
  have hlt := (List.getElem?_eq_some_iff.1 hi).1
  have : Keeps h.length h (h.set i o' ++ ex) := ⟨by simp, fun j hj a b h1 h2 => by
    rw [List.getElem?_append_left (by simpa using hj)] at h2
    by_cases e : i = j
    · subst e
      rw [List.getElem?_set_self hlt] at h2
      cases h2; exact .inr ho
    · rw [List.getElem?_set_ne e, h1] at h2
      cases h2; exact .inl (.refl _)⟩
  rw [if_pos ⟨hf, this⟩]
  rw [List.take_append_of_le_length (by simp)]
  exact List.take_of_length_le (by simp)
end

end Go.Abs

namespace Go.Abs
open Go Go.Proofs
set_option maxRecDepth 10000
set_option maxHeartbeats 4000000

def ixOf (xs : List Int) (v : Int) : Int := if v ∈ xs then (xs.idxOf v : Int) else -1
theorem ixOf_found {xs : List Int} {v : Int} {i : Nat} (hi : xs[i]? = some v) (hb : ∀ j, j < i → xs[j]? ≠ some v) : ixOf xs v = i := by
  have hm : v ∈ xs := List.mem_of_getElem? hi
  rw [ixOf, if_pos hm]
  congr 1
  induction xs generalizing i with
  | nil => simp at hi
  | cons x xs ih =>
    cases i with
    | zero => simp at hi; simp [hi]
    | succ i =>
      have hx : x ≠ v := fun e => hb 0 (by omega) (by simp [e])
      have := ih (i := i) (by simpa using hi) (fun j hj => by have := hb (j + 1) (by omega); simpa using this) (List.mem_of_getElem? (by simpa using hi))
      rw [List.idxOf_cons]
      have hb' : (x == v) = false := by simp [hx]
      rw [hb', this]; rfl
theorem ixOf_none {xs : List Int} {v : Int} (hb : ∀ j, j < xs.length → xs[j]? ≠ some v) : ixOf xs v = -1 := by
  rw [ixOf, if_neg]
  intro hm
  obtain ⟨j, hj⟩ := List.mem_iff_getElem?.1 hm
  exact hb j ((List.getElem?_eq_some_iff.1 hj).1) hj

theorem w95 (a : D) (xs : List Int) (v : Int) (ha : Rd a (isE xs)) (hx : xs.length ≤ 1099511627776) (h : List O) : wc 95 [a, .int .i64 v] h = some (.val (.int .i64 (ixOf xs v)), h) := by
  have la := rd_len ha
  have hcv : ∀ i, wcv 95 i = [] := fun _ => rfl
  have hres : Try.f95.results.toList = [ResultVar.tmp 4] := rfl
  rw [wc, call_fn rfl Try.func95 rfl]
  simp only [enterT, List.length_cons, List.length_nil, Nat.reduceAdd, Nat.reduceSub, List.replicate, List.cons_append, List.nil_append, kx_seq, kx_block, kSeq_nrm, ko_nil, ko_op, ko_builtin, kR_val, List.getElem?_toArray, List.getElem?_cons_zero, Option.bind_some, ne_eq, reduceCtorEq, not_false_eq_true, implies_true, Option.map_some, List.set_cons_succ, List.set_cons_zero, List.getD_cons_succ, List.getD_cons_zero, exO_move_tmp, exO_move_const, exO_assign, tk_const, rd_tmp, ofV_int, Int.reduceNeg, exB_len, Option.bind_eq_bind, Nat.zero_add, Option.pure_def, kx_region (hcv _), Try.ntmps95, ha.ownD, la]
  refine kx_loop_ind (fun (n : Nat) (s : St) => ∃ i : Nat, (i + n = xs.length ∧ ∀ j, j < i → xs[j]? ≠ some v) ∧ ∃ zs_, s = ⟨mkT [some (a), some (.int .i64 v), none, none, none, none, none, some (.int .i64 xs.length), some (.int .i64 i), none, none, none, none, none, none, none, none, none, none] zs_ 0, [], .no, h⟩) ?_ (xs.length) ⟨0, ⟨by omega, fun j hj => absurd hj (by omega)⟩, inv_intro rfl rfl rfl rfl⟩
  rintro n _ ⟨i, hf_o, zs_o, rfl⟩ IH_o
  obtain ⟨hn, ht⟩ := hf_o
  by_cases hi : i < xs.length
  rotate_left
  · have e2 : decide ((i : Int) < xs.length) = false := by simp; omega
    have hz := ixOf_none (xs := xs) (v := v) (fun j hj => ht j (by omega))
    simp only [Nat.reduceAdd, kx_seq, kx_ret, kx_exit, kx_cond_tmp, kCond_false, kSeq_nrm, kSeq_ext, kBlk_ext, kLoop_ext, ko_nil, ko_op, kR_val, ne_eq, reduceCtorEq, not_false_eq_true, implies_true, Option.map_some, List.set_cons_succ, List.set_cons_zero, List.getD_cons_succ, List.getD_cons_zero, own_e, ↓reduceIte, exO_assign, exO_binOp, tk_plain, tk_const, rd_tmp, ofV_int, binD_lss, Int.reduceNeg, arith_lss, kF_ret, leave_eq, resD_nil, resD_tmp, tupD_one, gc_same, fit_e, mkT, Nat.zero_add, kx_region (hcv _), hres, e2, hz]
  have e2 : decide ((i : Int) < xs.length) = true := by simp; omega
  have hxi : xs[i]? = some xs[i] := List.getElem?_eq_getElem hi
  generalize xs[i] = x at hxi
  have ia := rd_ix ha hxi
  simp only [List.length_cons, List.length_nil, Nat.reduceAdd, kx_seq, kx_skip, kx_block, kx_cond_tmp, kCond_true, kSeq_nrm, ko_nil, ko_op, kR_val, List.getElem?_cons_zero, Option.bind_some, ne_eq, reduceCtorEq, not_false_eq_true, implies_true, Option.map_some, List.set_cons_succ, List.set_cons_zero, List.getD_cons_succ, List.getD_cons_zero, own_e, ↓reduceIte, exO_move_tmp, exO_assign, exO_binOp, exO_indexAddr, tk_plain, sh_plain, rd_tmp, binD_eql, binD_lss, Int.reduceNeg, arith_eql, arith_lss, mkT, adOf_rptr, load0, exO_load, Nat.zero_add, Nat.le_refl, sz3, ag3, kx_region (hcv _), e2, ha.ownD, ia]
  by_cases hvx : v = x
  · subst hvx
    have hz := ixOf_found hxi ht
    simp only [kx_seq, kx_ret, kCond_true, kSeq_nrm, kSeq_ret, kBlk_ret, kLoop_ret, ko_nil, ko_op, kR_val, ne_eq, reduceCtorEq, not_false_eq_true, implies_true, Option.map_some, List.set_cons_succ, List.set_cons_zero, List.getD_cons_succ, List.getD_cons_zero, own_e, exO_move_tmp, exO_assign, tk_plain, Int.reduceNeg, kF_ret, leave_eq, resD_nil, resD_tmp, tupD_one, gc_same, fit_e, kx_region (hcv _), hres, beq_self_eq_true, hz]
  · have e3 : (v == x) = false := by simp [hvx]
    simp only [kx_skip, kCond_false, kSeq_nrm, kBlk_nrm, kLoop_nrm, ko_nil, ko_op, kR_val, ne_eq, reduceCtorEq, not_false_eq_true, implies_true, Option.map_some, List.set_cons_succ, List.set_cons_zero, List.getD_cons_succ, List.getD_cons_zero, own_e, exO_move_tmp, exO_binOp, rd_tmp, rd_const, ofV_int, binD_add, Int.reduceNeg, arith_add, kx_region (hcv _), e3, inc64 hi hx]
    refine IH_o (xs.length - (i + 1)) _ (by omega) ⟨i + 1, ⟨by omega, fun j hj => ?_⟩, inv_intro rfl rfl rfl rfl⟩
    by_cases hji : j = i
    · subst hji; rw [hxi]; simpa using fun e => hvx e.symm
    · exact ht j (by omega)

theorem w93 (a : D) (xs : List Int) (v : Int) (ha : Rd a (isE xs)) (hx : xs.length ≤ 1099511627776) (h : List O) : wc 93 [a, .int .i64 v] h = some (.val (.bool (decide (v ∈ xs))), h) := by
  have h95 := w95 a xs v ha hx
  have : decide (0 ≤ ixOf xs v) = decide (v ∈ xs) := by
    unfold ixOf; split <;> rename_i hm <;> simp [hm]
  have hcv : ∀ i, wcv 93 i = [] := fun _ => rfl
  have hres : Try.f93.results.toList = [ResultVar.tmp 4] := rfl
  rw [wc, call_fn rfl Try.func93 rfl]
  simp only [enterT, List.length_cons, List.length_nil, Nat.reduceAdd, Nat.reduceSub, List.replicate, List.cons_append, List.nil_append, kx_seq, kx_ret, kSeq_nrm, ko_nil, ko_op, ko_func, kT_some, kR_val, kC_val, ne_eq, reduceCtorEq, not_false_eq_true, implies_true, Option.map_some, List.set_cons_succ, List.set_cons_zero, List.getD_cons_succ, List.getD_cons_zero, own_e, exO_move_tmp, exO_assign, exO_binOp, tk_plain, tk_const, rd_tmp, rd_const, tks_nil, tks_cons, ofV_int, ofV_bool, binD_geq, arith_geq, kF_ret, leave_eq, resD_nil, resD_tmp, tupD_one, gc_same, fit_e, Nat.zero_add, kx_region (hcv _), Try.ntmps93, hres, ha.ownD, h95, this]

theorem w89 (a : D) (xs : List Int) (v : Int) (ha : Rd a (isE xs)) (h : List O) : wc 89 [a, .int .i64 v] h = some (.val (.func (.func 92) [] [.ptr h.length 0, .ptr (h.length + 1) 0]), h ++ [.cells [a], .cells [.int .i64 v]]) := by
  have hcv : ∀ i, wcv 89 i = [] := fun _ => rfl
  have hres : Try.f89.results.toList = [ResultVar.tmp 4] := rfl
  rw [wc, call_fn rfl Try.func89 rfl]
  simp only [enterT, List.length_cons, List.length_nil, Nat.reduceAdd, Nat.reduceSub, List.replicate, List.cons_append, List.nil_append, kx_seq, kx_ret, kSeq_nrm, ko_nil, ko_op, kR_val, ne_eq, reduceCtorEq, not_false_eq_true, implies_true, Option.map_some, List.set_cons_succ, List.set_cons_zero, List.getD_cons_succ, List.getD_cons_zero, own_e, own_ptr, own_func, ↓reduceIte, exO_assign, exO_box, exO_makeFunc, tk_plain, sh_plain, tk_const, shs_nil, shs_cons, ofV_nilfn, kF_ret, leave_eq, resD_nil, resD_tmp, tupD_one, Option.some.injEq, Prod.mk.injEq, true_and, hlen, hpush, cellsOf_e, notTup_e, Bool.true_and, Nat.zero_add, kx_region (hcv _), Try.ntmps89, hres, ha.ownD, ha.cells, ha.notTup]
  rw [gc_not]
  simp [fit_func, fit_ptr]

theorem bnd_int {k : IntKind} {i : Int} {y : Nat} (h0 : 0 ≤ i) (h1 : i ≤ y) : bnd (.e (.int k i)) y = some i.toNat := by simp [bnd, h0, h1]
theorem slice_of {P : Program} {t e : TypeId} {x : D} {es : List (List E)} {sz l h : Nat} {lo hi : Option D} (hu : P.underlying t = some (.slice e)) (hz : szOf P e = some sz) (hs : slOf x = some es) (hok : okRows sz es = true) (hp : 0 < sz) (hh : bndO hi es.length es.length = some h) (hl : bndO lo 0 h = some l) :
    sliceD P t x lo hi none = some (.e (.sl ((es.take h).drop l))) := by
  unfold sliceD
  rw [hu]
  cases x with
  | e v => simp [hz, hs, hok, hp, hh, hl]
  | osl ex fu sz' es' => simp [hz, hs, hok, hp, hh, hl]
  | _ => simp [slOf] at hs
theorem ok_isE (xs : List Int) : okRows 1 (isE xs) = true := by simp [okRows, isE]

end Go.Abs

namespace Go.Abs
open Go Go.Proofs
set_option maxRecDepth 10000
set_option maxHeartbeats 4000000

/-- Every round goes on. -/
def AllG (xs : List Int) (frm : Int) (good : Int → Bool → Bool) : Prop := ∀ (i : Nat) x, xs[i]? = some x → good x (x != frm && !decide (x ∈ xs.take i)) = true

open Classical in
theorem w92 (H H' : List O) (L p1 p2 : Nat) (a : D) (xs : List Int) (frm : Int) (ha : Rd a (isE xs)) (hx : xs.length ≤ 1099511627776) (hc1 : getCells H p1 = some [a]) (hc2 : getCells H p2 = some [.int .i64 frm]) (good : Int → Bool → Bool)
    (hr : ∀ n b, call Try.prog wpr wcv (.round L) [.int .i64 n, .bool b] H = some (.val (.bool (good n b)), if good n b then H else H')) (hgc : gc H.length H H' undefD = H') :
    wc 92 [.func (.yield L) [] [], .ptr p1 0, .ptr p2 0] H = some (.val undefD, if AllG xs frm good then H else H') := by
  have la := rd_len ha
  have hcv : ∀ i, wcv 92 i = [] := fun _ => rfl
  have hres : Try.f92.results.toList = [] := rfl
  rw [wc, call_fn rfl Try.func92 rfl]
  simp only [enterT, List.length_cons, List.length_nil, Nat.reduceAdd, Nat.reduceSub, List.replicate, List.cons_append, List.nil_append, kx_seq, kx_block, kSeq_nrm, ko_nil, ko_op, ko_builtin, kR_val, List.getElem?_toArray, List.getElem?_cons_zero, Option.bind_some, ne_eq, reduceCtorEq, not_false_eq_true, implies_true, Bool.false_eq_true, Option.map_some, List.set_cons_succ, List.set_cons_zero, List.getD_cons_succ, List.getD_cons_zero, ↓reduceIte, exO_move_const, rd_tmp, ofV_int, exB_len, adOf_ptr, load1, Option.bind_eq_bind, exO_load, Nat.zero_add, Option.pure_def, Nat.le_refl, sz22, ag22, kx_region (hcv _), Try.ntmps92, ha.own, la, hc1]
  refine kx_loop_ind (fun (n : Nat) (s : St) => ∃ i : Nat, (i + n = xs.length ∧ ∀ j x, j < i → xs[j]? = some x → good x (x != frm && !decide (x ∈ xs.take j)) = true) ∧ ∃ zs_, s = ⟨mkT [some (.func (.yield L) [] []), some (.ptr p1 0), some (.ptr p2 0), none, none, none, some (a), some (.int .i64 xs.length), some (.int .i64 i), none, none, none, none, none, none, none, none, none, none, none, none, none, none, none, none, none, none, none, none] zs_ 0, [], .no, H⟩) ?_ (xs.length) ⟨0, ⟨by omega, fun j x hj => absurd hj (by omega)⟩, inv_intro rfl rfl rfl rfl⟩
  rintro n _ ⟨i, hf_o, zs_o, rfl⟩ IH_o
  obtain ⟨hn, ht⟩ := hf_o
  by_cases hi : i < xs.length
  rotate_left
  · have e2 : decide ((i : Int) < xs.length) = false := by simp; omega
    have hz : AllG xs frm good := fun j x hj => ht j x (by have := (List.getElem?_eq_some_iff.1 hj).1; omega) hj
    simp only [Nat.reduceAdd, kx_seq, kx_exit, kx_cond_tmp, kCond_false, kSeq_nrm, kSeq_ext, kBlk_ext, kLoop_ext, ko_nil, ko_op, kR_val, ne_eq, reduceCtorEq, not_false_eq_true, implies_true, Option.map_some, List.set_cons_succ, List.set_cons_zero, List.getD_cons_succ, List.getD_cons_zero, ↓reduceIte, exO_binOp, rd_tmp, binD_lss, arith_lss, kF_nrm, leave_eq, resD_nil, tupD_nil, gc_same, fit_tup, List.not_mem_nil, false_imp_iff, mkT, Nat.zero_add, kx_region (hcv _), hres, e2, hz]
  have e2 : decide ((i : Int) < xs.length) = true := by simp; omega
  have hxi : xs[i]? = some xs[i] := List.getElem?_eq_getElem hi
  generalize xs[i] = x at hxi
  have ia := rd_ix ha hxi
  have hsl : sliceD Try.prog 22 a none (some (.e (.int .i64 (i : Int)))) none = some (.e (.sl (isE (xs.take i)))) := by
    rw [slice_of (h := i) (l := 0) Try.underlying22 sz3 ha.sl (ok_isE xs) (by omega) (by rw [bndO, bnd_int (by omega) (by simp [isE]; omega)]; simp) rfl]
    simp [isE, List.map_take]
  have h93 := w93 (.e (.sl (isE (xs.take i)))) (xs.take i) x Rd.e (by simp; omega)
  have hrr := hr x (x != frm && !decide (x ∈ xs.take i))
  simp only [List.length_cons, List.length_nil, Nat.reduceAdd, kx_seq, kx_skip, kx_block, kx_cond_tmp, kCond_true, kSeq_nrm, ko_nil, ko_op, ko_guard, kR_val, List.getElem?_toArray, List.getElem?_cons_succ, List.getElem?_cons_zero, Option.bind_some, Nat.reduceLT, ne_eq, reduceCtorEq, not_false_eq_true, implies_true, Bool.false_eq_true, Option.map_some, List.set_cons_succ, List.set_cons_zero, List.getD_cons_succ, List.getD_cons_zero, own_e, own_func, own0_e, ↓reduceIte, exO_move_tmp, exO_assign, exO_binOp, exO_indexAddr, tk_plain, sh_plain, rd_tmp, binD_neq, binD_lss, Int.reduceLT, arith_neq, arith_lss, Option.some.injEq, Prod.mk.injEq, mkT, adOf_ptr, adOf_rptr, load1, load0, exO_load, Nat.zero_add, Nat.le_refl, sz3, ag3, kx_region (hcv _), e2, ha.ownD, ia, hc2]
  generalize hbv : (x != frm && !decide (x ∈ xs.take i)) = bv at hrr
  have hstep : good x bv = true → ∀ (j : Nat) y, j < i + 1 → xs[j]? = some y → good y (y != frm && !decide (y ∈ xs.take j)) = true := by
    intro hg j y hj hy
    by_cases hji : j = i
    · subst hji; rw [hxi] at hy; cases hy; rw [hbv]; exact hg
    · exact ht j y (by omega) hy
  have hbad : good x bv = false → ¬ AllG xs frm good := by
    intro hg hall
    have := hall i x hxi
    rw [hbv, hg] at this; cases this
  cases hxf : (x != frm)
  · rw [hxf, Bool.false_and] at hbv
    subst hbv
    simp only [List.length_cons, List.length_nil, Nat.reduceAdd, ko_op, ko_guard, kR_val, kG_no, St.put, List.getElem?_toArray, List.getElem?_cons_succ, List.getElem?_cons_zero, Option.bind_some, Nat.reduceLT, ne_eq, reduceCtorEq, not_false_eq_true, implies_true, Bool.not_true, Bool.false_eq_true, Option.map_some, List.set_cons_succ, List.set_cons_zero, List.getD_cons_succ, List.getD_cons_zero, ↓reduceIte, exO_pick, sh_const, rd_tmp, ofV_bool, Int.reduceLT, Option.some.injEq, Prod.mk.injEq, Nat.zero_add]
    rw [ko_yield rfl rfl]
    cases hg : good x false
    · rw [hg] at hrr
      simp only [kx_ret, kx_cond_tmp, kCond_true, kSeq_nrm, kSeq_ret, kBlk_ret, kLoop_ret, ko_nil, ko_op, kR_val, kC_val, ne_eq, reduceCtorEq, not_false_eq_true, implies_true, Bool.not_false, Bool.false_eq_true, Option.map_some, List.set_cons_succ, List.set_cons_zero, List.getD_cons_succ, List.getD_cons_zero, ↓reduceIte, exO_unOp, rd_tmp, unD_not, kF_ret, leave_eq, resD_nil, tupD_nil, hres, hrr, hbad hg, hgc]
    · rw [hg] at hrr
      simp only [kx_skip, kx_cond_tmp, kCond_false, kSeq_nrm, kBlk_nrm, kLoop_nrm, ko_nil, ko_op, kR_val, kC_val, ne_eq, reduceCtorEq, not_false_eq_true, implies_true, Bool.not_true, Option.map_some, List.set_cons_succ, List.set_cons_zero, List.getD_cons_succ, List.getD_cons_zero, own_e, ↓reduceIte, exO_move_tmp, exO_binOp, exO_unOp, rd_tmp, rd_const, ofV_int, binD_add, arith_add, unD_not, kx_region (hcv _), hrr, inc64 hi hx]
      refine IH_o (xs.length - (i + 1)) _ (by omega) ⟨i + 1, ⟨by omega, hstep hg⟩, inv_intro rfl rfl rfl rfl⟩
  · rw [hxf, Bool.true_and] at hbv
    simp only [List.length_cons, List.length_nil, Nat.reduceAdd, ko_op, ko_func, kT_some, ko_guard, kR_val, kC_val, kG_yes, List.getElem?_toArray, List.getElem?_cons_succ, List.getElem?_cons_zero, Option.bind_some, Nat.reduceLT, ne_eq, reduceCtorEq, not_false_eq_true, implies_true, Bool.false_eq_true, Option.map_some, List.set_cons_succ, List.set_cons_zero, List.getD_cons_succ, List.getD_cons_zero, own_e, ↓reduceIte, exO_move_tmp, exO_unOp, exO_pick, exO_slice, tk_plain, sh_plain, rd_tmp, tks_nil, tks_cons, optO_none, optO_some, Int.reduceLT, unD_not, Option.some.injEq, Prod.mk.injEq, adOf_ptr, load1, exO_load, Nat.zero_add, Nat.le_refl, sz22, ag22, hc1, ha.own, ha.ownD, hsl, h93, hbv]
    rw [ko_yield rfl rfl]
    cases hg : good x bv
    · rw [hg] at hrr
      simp only [kx_ret, kx_cond_tmp, kCond_true, kSeq_nrm, kSeq_ret, kBlk_ret, kLoop_ret, ko_nil, ko_op, kR_val, kC_val, ne_eq, reduceCtorEq, not_false_eq_true, implies_true, Bool.not_false, Bool.false_eq_true, Option.map_some, List.set_cons_succ, List.set_cons_zero, List.getD_cons_succ, List.getD_cons_zero, ↓reduceIte, exO_unOp, rd_tmp, unD_not, kF_ret, leave_eq, resD_nil, tupD_nil, hres, hrr, hbad hg, hgc]
    · rw [hg] at hrr
      simp only [kx_skip, kx_cond_tmp, kCond_false, kSeq_nrm, kBlk_nrm, kLoop_nrm, ko_nil, ko_op, kR_val, kC_val, ne_eq, reduceCtorEq, not_false_eq_true, implies_true, Bool.not_true, Option.map_some, List.set_cons_succ, List.set_cons_zero, List.getD_cons_succ, List.getD_cons_zero, own_e, ↓reduceIte, exO_move_tmp, exO_binOp, exO_unOp, rd_tmp, rd_const, ofV_int, binD_add, arith_add, unD_not, kx_region (hcv _), hrr, inc64 hi hx]
      refine IH_o (xs.length - (i + 1)) _ (by omega) ⟨i + 1, ⟨by omega, hstep hg⟩, inv_intro rfl rfl rfl rfl⟩

end Go.Abs
