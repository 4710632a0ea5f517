/-
  RUNNING THE EVALUATOR ON CODE THAT IS GIVEN, step by step, what comes behind as a function. MORE RULES for running the evaluator: values, results. No condition.
-/
import Derived.Test.YtkimilghfbgjmaaP12

namespace Go.Abs

section
variable {P : Program} {pr : FuncId → List D → Option D} {cv : FuncId → Nat → List Cv} {β : Type}

/-- Code, and what comes behind. -/
noncomputable def kx (P : Program) (pr : FuncId → List D → Option D) (cv : FuncId → Nat → List Cv) (fn : FuncId) (c : Code) (s : St) (k : X × St → Option β) : Option β := (exec P pr cv fn c s).bind k
noncomputable def ko (P : Program) (pr : FuncId → List D → Option D) (cv : FuncId → Nat → List Cv) (all : Array Oper) (l : List Oper) (s : St) (k : X × St → Option β) : Option β := (exOps P pr cv all l s).bind k
noncomputable def kIn (P : Program) (pr : FuncId → List D → Option D) (cv : FuncId → Nat → List Cv) (fn : FuncId) (body c : Code) (s : St) (k : X × St → Option β) : Option β := (execIn P pr cv fn body c s).bind k
noncomputable def kd (P : Program) (pr : FuncId → List D → Option D) (cv : FuncId → Nat → List Cv) (all : Array Oper) (l : List Todo) (hs : List (Nat × List O)) (ag : List Again) (s : St) (k : X × St → Option β) : Option β := (exDraw P pr cv all l hs ag s).bind k

noncomputable def kSeq (P : Program) (pr : FuncId → List D → Option D) (cv : FuncId → Nat → List Cv) (fn : FuncId) (b : Code) (k : X × St → Option β) : X × St → Option β := fun r =>
  match r.1 with
  | .nrm => kx P pr cv fn b r.2 k
  | x => k (x, r.2)
def kBlk (id : Nat) (k : X × St → Option β) : X × St → Option β := fun r =>
  match r.1 with
  | .ext i => if i = id then k (.nrm, r.2) else k (.ext i, r.2)
  | x => k (x, r.2)
noncomputable def kLoop (P : Program) (pr : FuncId → List D → Option D) (cv : FuncId → Nat → List Cv) (fn : FuncId) (c : Code) (k : X × St → Option β) : X × St → Option β := fun r =>
  match r.1 with
  | .nrm => kx P pr cv fn (.loop c) r.2 k
  | x => k (x, r.2)
noncomputable def kScope (P : Program) (pr : FuncId → List D → Option D) (cv : FuncId → Nat → List Cv) (fn : FuncId) (body : Code) (k : X × St → Option β) : X × St → Option β := fun r =>
  match r.1 with
  | .gto l => match findLabel body l with
    | some rest => kIn P pr cv fn body rest r.2 k
    | none => k (.gto l, r.2)
  | x => k (x, r.2)
/-- Parted by a truth. -/
noncomputable def kCond (P : Program) (pr : FuncId → List D → Option D) (cv : FuncId → Nat → List Cv) (fn : FuncId) (v : D) (a b : Code) (s : St) (k : X × St → Option β) : Option β :=
  match v with
  | .e (.bool t) => match t with
    | true => kx P pr cv fn a s k
    | false => kx P pr cv fn b s k
  | _ => none

variable {fn : FuncId} {a b c : Code} {s : St} {k : X × St → Option β}

theorem kx_skip : kx P pr cv fn .skip s k = k (.nrm, s) := by unfold kx; rw [exec]; rfl
theorem kx_label {l : Nat} : kx P pr cv fn (.label l) s k = k (.nrm, s) := by unfold kx; rw [exec]; rfl
theorem kx_ret : kx P pr cv fn .ret s k = k (.ret, s) := by unfold kx; rw [exec]; rfl
theorem kx_exit {id : Nat} : kx P pr cv fn (.exit id) s k = k (.ext id, s) := by unfold kx; rw [exec]; rfl
theorem kx_goto {id : Nat} : kx P pr cv fn (.goto id) s k = k (.gto id, s) := by unfold kx; rw [exec]; rfl
theorem kx_seq : kx P pr cv fn (.seq a b) s k = kx P pr cv fn a s (kSeq P pr cv fn b k) := by
  unfold kx; rw [exec]
  cases h : exec P pr cv fn a s with
  | none => simp
  | some r =>
    obtain ⟨x, s1⟩ := r
    cases x <;> simp [kSeq, kx]
theorem kx_block {id : Nat} : kx P pr cv fn (.block id c) s k = kx P pr cv fn c s (kBlk id k) := by
  unfold kx; rw [exec]
  cases h : exec P pr cv fn c s with
  | none => simp
  | some r =>
    obtain ⟨x, s1⟩ := r
    cases x <;> simp [kBlk]
    split <;> simp_all
theorem kx_loop : kx P pr cv fn (.loop c) s k = kx P pr cv fn c s (kLoop P pr cv fn c k) := by
  conv => lhs; unfold kx
  rw [exec]
  unfold kx
  cases h : exec P pr cv fn c s with
  | none => simp
  | some r =>
    obtain ⟨x, s1⟩ := r
    cases x <;> simp [kLoop, kx]
theorem kx_scope : kx P pr cv fn (.scope c) s k = kIn P pr cv fn c c s k := by unfold kx kIn; rw [exec]
theorem kIn_eq {body : Code} : kIn P pr cv fn body c s k = kx P pr cv fn c s (kScope P pr cv fn body k) := by
  unfold kIn; rw [execIn]
  unfold kx
  cases h : exec P pr cv fn c s with
  | none => simp
  | some r =>
    obtain ⟨x, s1⟩ := r
    cases x <;> simp [kScope]
    split <;> simp_all [kIn]
theorem kx_cond {o : Operand} {d : D} (h : rd s o = some d) : kx P pr cv fn (.cond o a b) s k = kCond P pr cv fn d a b s k := by
  unfold kx; rw [exec]
  simp only [h]
  unfold kCond
  split
  · rename_i t ht
    cases ht
    cases t <;> rfl
  · rename_i hn
    cases d with
    | e x =>
      cases x with
      | bool t => exact absurd rfl (hn t)
      | _ => rfl
    | _ => rfl
theorem kx_cond_tmp {t : Tmp} {tl : List D} {d : List (FuncId × List D)} {r : Rc} {h : List O} : kx P pr cv fn (.cond (.tmp t) a b) ⟨tl, d, r, h⟩ k = kCond P pr cv fn (tl.getD t undefD) a b ⟨tl, d, r, h⟩ k := kx_cond rfl
theorem kCond_true : kCond P pr cv fn (.e (.bool true)) a b s k = kx P pr cv fn a s k := rfl
theorem kCond_false : kCond P pr cv fn (.e (.bool false)) a b s k = kx P pr cv fn b s k := rfl

theorem kSeq_nrm : kSeq P pr cv fn b k (.nrm, s) = kx P pr cv fn b s k := rfl
theorem kSeq_ret : kSeq P pr cv fn b k (.ret, s) = k (.ret, s) := rfl
theorem kSeq_ext {i : Nat} : kSeq P pr cv fn b k (.ext i, s) = k (.ext i, s) := rfl
theorem kSeq_gto {i : Nat} : kSeq P pr cv fn b k (.gto i, s) = k (.gto i, s) := rfl
theorem kSeq_pan {d : D} : kSeq P pr cv fn b k (.pan d, s) = k (.pan d, s) := rfl
theorem kBlk_nrm {id : Nat} : kBlk id k (.nrm, s) = k (.nrm, s) := rfl
theorem kBlk_ret {id : Nat} : kBlk id k (.ret, s) = k (.ret, s) := rfl
theorem kBlk_ext {id i : Nat} : kBlk id k (.ext i, s) = if i = id then k (.nrm, s) else k (.ext i, s) := rfl
theorem kBlk_gto {id i : Nat} : kBlk id k (.gto i, s) = k (.gto i, s) := rfl
theorem kBlk_pan {id : Nat} {d : D} : kBlk id k (.pan d, s) = k (.pan d, s) := rfl
theorem kLoop_nrm : kLoop P pr cv fn c k (.nrm, s) = kx P pr cv fn (.loop c) s k := rfl
theorem kLoop_ret : kLoop P pr cv fn c k (.ret, s) = k (.ret, s) := rfl
theorem kLoop_ext {i : Nat} : kLoop P pr cv fn c k (.ext i, s) = k (.ext i, s) := rfl
theorem kLoop_gto {i : Nat} : kLoop P pr cv fn c k (.gto i, s) = k (.gto i, s) := rfl
theorem kLoop_pan {d : D} : kLoop P pr cv fn c k (.pan d, s) = k (.pan d, s) := rfl
theorem kScope_nrm : kScope P pr cv fn c k (.nrm, s) = k (.nrm, s) := rfl
theorem kScope_ret : kScope P pr cv fn c k (.ret, s) = k (.ret, s) := rfl
theorem kScope_ext {i : Nat} : kScope P pr cv fn c k (.ext i, s) = k (.ext i, s) := rfl
theorem kScope_gto {l : Nat} {rest : Code} (h : findLabel c l = some rest) : kScope P pr cv fn c k (.gto l, s) = kIn P pr cv fn c rest s k := by simp [kScope, h]
theorem kScope_pan {d : D} : kScope P pr cv fn c k (.pan d, s) = k (.pan d, s) := rfl

/-- A loop: by a number that falls. -/
theorem kx_loop_ind {res : Option β} (inv : Nat → St → Prop) (step : ∀ n s, inv n s → (∀ m s', m < n → inv m s' → kx P pr cv fn (.loop c) s' k = res) → kx P pr cv fn c s (kLoop P pr cv fn c k) = res) (n : Nat) (h : inv n s) :
    kx P pr cv fn (.loop c) s k = res := by
  induction n using Nat.strongRecOn generalizing s with
  | _ n ih =>
    rw [kx_loop]
    exact step n s h (fun m s' hm h' => ih m hm h')

/-! ### regions -/
theorem kx_region {id : Nat} {ops : Array Oper} (hc : cv fn id = []) : kx P pr cv fn (.region id ops false) s k = ko P pr cv ops ops.toList s k := by
  unfold kx ko; rw [exec]; simp [hc, preCv]
theorem kx_region_cv {id : Nat} {ops : Array Oper} : kx P pr cv fn (.region id ops false) s k = ko P pr cv ops ops.toList (preCv (cv fn id) s) k := by
  unfold kx ko; rw [exec]
theorem kx_draw {id : Nat} {ops : Array Oper} {l : List Todo} (hp : planOf ops = some l) : kx P pr cv fn (.region id ops true) s k = kd P pr cv ops l [] [] (preSeal ops.toList (preCv (cv fn id) s)) k := by
  unfold kx kd; rw [exec]; simp [hp]

/-! ### regions whose order is open -/
section
variable {all : Array Oper} {hs : List (Nat × List O)} {ag : List Again}
theorem kd_nil : kd P pr cv all [] hs ag s k = k (.nrm, s) := by unfold kd; rw [exDraw]; rfl

theorem kd_light {i bf : Nat} {nm mv : List Tmp} {rest : List Todo} {o : Oper} {d : D} (ho : all[i]? = some o) (hg : want all o s = true) (hx : exLight P o s = some d) :
    kd P pr cv all (⟨i, false, false, bf, nm, mv⟩ :: rest) hs ag s k = kd P pr cv all rest hs ag (s.put o.dst d) k := by
  unfold kd; rw [exDraw]; simp [ho, hg, hx]
theorem kd_read {i bf : Nat} {nm mv : List Tmp} {rest : List Todo} {o : Oper} {d : D} (ho : all[i]? = some o) (hg : want all o s = true) (hx : exLight P o s = some d) (hb : sameBack P o bf s.t d hs) :
    kd P pr cv all (⟨i, false, true, bf, nm, mv⟩ :: rest) hs ag s k = kd P pr cv all rest hs ({ i := i, o := o, t := s.t, d := d } :: ag) (s.put o.dst d) k := by
  unfold kd; rw [exDraw]; simp [ho, hg, hx, hb]
theorem kd_skip {td : Todo} {rest : List Todo} {o : Oper} (ho : all[td.i]? = some o) (hg : want all o s = false) :
    kd P pr cv all (td :: rest) hs ag s k = kd P pr cv all rest hs ag (s.put o.dst undefD) k := by
  unfold kd; rw [exDraw]; simp [ho, hg]
theorem kd_oper {i bf : Nat} {rd : Bool} {nm mv : List Tmp} {rest : List Todo} {o : Oper} {d : D} {s1 : St} (ho : all[i]? = some o) (hg : want all o s = true) (hc : calmAt ⟨i, true, rd, bf, nm, mv⟩ s.t = true) (hk : kindOf o s = .other) (hx : exOp P [] o s = some (.val d, s1)) (ha : againOk P bf s1.h ag) :
    kd P pr cv all (⟨i, true, rd, bf, nm, mv⟩ :: rest) hs ag s k = kd P pr cv all rest ((i, s.h) :: hs) ag (s1.put o.dst d) k := by
  unfold kd; rw [exDraw]; simp [ho, hg, hc, hk, hx, ha]
theorem kd_call {i bf : Nat} {rd : Bool} {nm mv : List Tmp} {rest : List Todo} {o : Oper} {g : Tgt} {args : List D} {d : D} {s1 : St} {h : List O} (ho : all[i]? = some o) (hg : want all o s = true) (hc : calmAt ⟨i, true, rd, bf, nm, mv⟩ s.t = true) (hk : kindOf o s = .go g args s1) (hx : call P pr cv g args s1.h = some (.val d, h)) (ha : againOk P bf h ag) :
    kd P pr cv all (⟨i, true, rd, bf, nm, mv⟩ :: rest) hs ag s k = kd P pr cv all rest ((i, s.h) :: hs) ag (({ s1 with h := h } : St).put o.dst d) k := by
  unfold kd; rw [exDraw]; simp [ho, hg, hc, hk, hx, ha]
end

variable {all : Array Oper} {l : List Oper}
theorem ko_nil : ko P pr cv all [] s k = k (.nrm, s) := by unfold ko; rw [exOps]; rfl

/-- An operation is done: its value into its slot. -/
noncomputable def kR (P : Program) (pr : FuncId → List D → Option D) (cv : FuncId → Nat → List Cv) (all : Array Oper) (l : List Oper) (dst : Option Tmp) (k : X × St → Option β) (r : Option (Out × St)) : Option β :=
  match r with
  | some (.val d, s1) => ko P pr cv all l (s1.put dst d) k
  | some (.pan d, s1) => k (.pan d, s1)
  | _ => none
theorem kR_val {dst : Tmp} {d : D} {tl : List D} {df : List (FuncId × List D)} {r : Rc} {h : List O} : kR P pr cv all l (some dst) k (some (.val d, ⟨tl, df, r, h⟩)) = ko P pr cv all l ⟨tl.set dst d, df, r, h⟩ k := rfl
theorem kR_val0 {d : D} : kR P pr cv all l none k (some (.val d, s)) = ko P pr cv all l s k := rfl
theorem kR_pan {dst : Option Tmp} {d : D} : kR P pr cv all l dst k (some (.pan d, s)) = k (.pan d, s) := rfl

/-- Is it wanted? -/
noncomputable def kG (P : Program) (pr : FuncId → List D → Option D) (cv : FuncId → Nat → List Cv) (v : D) (b : Bool) (all : Array Oper) (o : Oper) (l : List Oper) (s : St) (k : X × St → Option β) : Option β :=
  if (match v with | .e (.bool c) => c == b | _ => false) then ko P pr cv all ({ o with guard := none } :: l) s k else ko P pr cv all l (s.put o.dst undefD) k
theorem kG_yes {o : Oper} {c b : Bool} (h : c = b) : kG P pr cv (.e (.bool c)) b all o l s k = ko P pr cv all ({ o with guard := none } :: l) s k := by simp [kG, h]
theorem kG_no {o : Oper} {c b : Bool} (h : c = !b) : kG P pr cv (.e (.bool c)) b all o l s k = ko P pr cv all l (s.put o.dst undefD) k := by cases c <;> cases b <;> simp_all [kG]

theorem kG_undef {o : Oper} {b : Bool} : kG P pr cv undefD b all o l s k = ko P pr cv all l (s.put o.dst undefD) k := rfl

theorem exOps_cons {o : Oper} (hg : o.guard = none) : exOps P pr cv all (o :: l) s = match kindOf o s with
      | .bad => none
      | .go g args s1 => (call P pr cv g args s1.h).bind fun r => match r.1 with
        | .val d => exOps P pr cv all l (({ s1 with h := r.2 } : St).put o.dst d)
        | .pan d => some (.pan d, { s1 with h := r.2 })
        | .rcv _ => none
      | .other => match exOp P l o s with
        | some (.val d, s1) => exOps P pr cv all l (s1.put o.dst d)
        | some (.pan d, s1) => some (.pan d, s1)
        | _ => none := by rw [exOps]; simp only [want, hg, if_true]; rfl

theorem ko_guard {dst : Option Tmp} {op : Op} {ty : TypeId} {pos : String} {af : Array Edge} {j t : Nat} {b : Bool} {tl : List D} {df : List (FuncId × List D)} {r : Rc} {h : List O} (hj : (all[j]?).bind (·.dst) = some t) (ht : t < tl.length) :
    ko P pr cv all (⟨dst, op, ty, pos, af, some (j, b)⟩ :: l) ⟨tl, df, r, h⟩ k = kG P pr cv (tl.getD t undefD) b all ⟨dst, op, ty, pos, af, none⟩ l ⟨tl, df, r, h⟩ k := by
  unfold ko kG
  have hw : want all ⟨dst, op, ty, pos, af, some (j, b)⟩ ⟨tl, df, r, h⟩ = (match tl.getD t undefD with | .e (.bool c) => c == b | _ => false) := by
    simp only [want, hj]
    rw [List.getD_eq_getElem?_getD, List.getElem?_eq_getElem ht]
    simp only [Option.getD_some]
    cases tl[t] with
    | e x => cases x <;> rfl
    | _ => rfl
  have hko : kindOf ⟨dst, op, ty, pos, af, some (j, b)⟩ ⟨tl, df, r, h⟩ = kindOf ⟨dst, op, ty, pos, af, none⟩ ⟨tl, df, r, h⟩ := rfl
  have hex : exOp P l ⟨dst, op, ty, pos, af, some (j, b)⟩ ⟨tl, df, r, h⟩ = exOp P l ⟨dst, op, ty, pos, af, none⟩ ⟨tl, df, r, h⟩ := rfl
  rw [exOps]
  simp only [hw, hko, hex]
  by_cases hc : (match tl.getD t undefD with | .e (.bool c) => c == b | _ => false) = true
  · rw [if_pos hc, if_pos hc]
    unfold ko; rw [exOps_cons rfl]; rfl
  · rw [if_neg hc, if_neg hc]; rfl

theorem ko_op {dst : Option Tmp} {op : Op} {ty : TypeId} {pos : String} {af : Array Edge} (hk : ∀ c, op ≠ .call c) : ko P pr cv all (⟨dst, op, ty, pos, af, none⟩ :: l) s k = kR P pr cv all l dst k (exOp P l ⟨dst, op, ty, pos, af, none⟩ s) := by
  unfold ko
  rw [exOps_cons rfl]
  have : kindOf ⟨dst, op, ty, pos, af, none⟩ s = .other := by
    unfold kindOf; cases op <;> simp_all
  rw [this]
  simp only
  unfold kR
  cases hx : exOp P l ⟨dst, op, ty, pos, af, none⟩ s with
  | none => rfl
  | some r =>
    obtain ⟨o, s1⟩ := r
    cases o <;> rfl

theorem ko_builtin {dst : Option Tmp} {b : Builtin} {args : Array Operand} {ats : Array TypeId} {ty : TypeId} {pos : String} {af : Array Edge} :
    ko P pr cv all (⟨dst, .call { callee := .builtin b, args := args, argTypes := ats }, ty, pos, af, none⟩ :: l) s k = kR P pr cv all l dst k (exBuiltin P b ats args.toList s) := by
  unfold ko
  rw [exOps_cons rfl]
  simp only [kindOf, exOp]
  unfold kR
  cases hx : exBuiltin P b ats args.toList s with
  | none => rfl
  | some r =>
    obtain ⟨o, s1⟩ := r
    cases o <;> rfl

/-- Behind a call. -/
noncomputable def kC (P : Program) (pr : FuncId → List D → Option D) (cv : FuncId → Nat → List Cv) (all : Array Oper) (l : List Oper) (dst : Option Tmp) (s1 : St) (k : X × St → Option β) (r : Option (Out × List O)) : Option β :=
  match r with
  | some (.val d, h) => ko P pr cv all l (({ s1 with h := h } : St).put dst d) k
  | some (.pan d, h) => k (.pan d, { s1 with h := h })
  | _ => none
theorem kC_val {dst : Tmp} {d : D} {tl : List D} {df : List (FuncId × List D)} {r : Rc} {h0 h : List O} : kC P pr cv all l (some dst) ⟨tl, df, r, h0⟩ k (some (.val d, h)) = ko P pr cv all l ⟨tl.set dst d, df, r, h⟩ k := rfl
theorem kC_val0 {d : D} {tl : List D} {df : List (FuncId × List D)} {r : Rc} {h0 h : List O} : kC P pr cv all l none ⟨tl, df, r, h0⟩ k (some (.val d, h)) = ko P pr cv all l ⟨tl, df, r, h⟩ k := rfl
theorem kC_pan {dst : Option Tmp} {d : D} {tl : List D} {df : List (FuncId × List D)} {r : Rc} {h0 h : List O} : kC P pr cv all l dst ⟨tl, df, r, h0⟩ k (some (.pan d, h)) = k (.pan d, ⟨tl, df, r, h⟩) := rfl

theorem ko_go {o : Oper} {g : Tgt} {args : List D} {s1 : St} (hg : o.guard = none) (hk : kindOf o s = .go g args s1) : ko P pr cv all (o :: l) s k = kC P pr cv all l o.dst s1 k (call P pr cv g args s1.h) := by
  unfold ko
  rw [exOps_cons hg, hk]
  simp only
  unfold kC
  cases hx : call P pr cv g args s1.h with
  | none => rfl
  | some r =>
    obtain ⟨o, s1⟩ := r
    cases o <;> rfl

/-- A call of a function that is named. -/
noncomputable def kT (P : Program) (pr : FuncId → List D → Option D) (cv : FuncId → Nat → List Cv) (f : FuncId) (all : Array Oper) (l : List Oper) (dst : Option Tmp) (k : X × St → Option β) (r : Option (List D × St)) : Option β :=
  match r with
  | some (ds, s1) => kC P pr cv all l dst s1 k (call P pr cv (.fn f) ds s1.h)
  | none => none
theorem kT_some {f : FuncId} {dst : Option Tmp} {ds : List D} {tl : List D} {df : List (FuncId × List D)} {r : Rc} {h : List O} : kT P pr cv f all l dst k (some (ds, ⟨tl, df, r, h⟩)) = kC P pr cv all l dst ⟨tl, df, r, h⟩ k (call P pr cv (.fn f) ds h) := rfl
theorem ko_func {dst : Option Tmp} {f : FuncId} {args : Array Operand} {ats : Array TypeId} {ty : TypeId} {pos : String} {af : Array Edge} :
    ko P pr cv all (⟨dst, .call { callee := .value (.func f), args := args, argTypes := ats }, ty, pos, af, none⟩ :: l) s k = kT P pr cv f all l dst k (tks s args.toList) := by
  cases ht : tks s args.toList with
  | none =>
    unfold ko kT
    rw [exOps_cons rfl]
    simp [kindOf, rd, ht]
  | some r =>
    obtain ⟨ds, s1⟩ := r
    exact ko_go rfl (by simp [kindOf, rd, ht, noOwn])

/-! ### a call -/
/-- Behind a function's code. -/
noncomputable def kF (P : Program) (pr : FuncId → List D → Option D) (cv : FuncId → Nat → List Cv) (fn : Func) (h : List O) : X × St → Option (Out × List O) := fun r =>
  match wantT r.1 with
  | some u => (undo P pr cv r.2.d u r.2.h).bind fun q => leave P fn h q.1 r.2.t q.2
  | none => none
theorem call_fn {f : FuncId} {args : List D} {h : List O} {fn : Func} {c : Code} (h0 : pr f args = none) (h1 : P.funcs[f]? = some fn) (h2 : bodyOf fn = some c) :
    call P pr cv (.fn f) args h = kx P pr cv f c { t := enterT fn args, d := [], r := .no, h := h } (kF P pr cv fn h) := by
  rw [call]; simp only [h0, h1, h2]; rfl
theorem call_pr {f : FuncId} {args : List D} {h : List O} {d : D} (h0 : pr f args = some d) : call P pr cv (.fn f) args h = some (.val d, h) := by
  rw [call]; simp only [h0]
theorem undo_nil {u : Option D} {h : List O} : undo P pr cv [] u h = some (u, h) := by rw [undo]
theorem kF_ret {fn : Func} {h h' : List O} {tl : List D} {r : Rc} : kF P pr cv fn h (.ret, ⟨tl, [], r, h'⟩) = leave P fn h none tl h' := by simp [kF, wantT, undo_nil]
theorem kF_nrm {fn : Func} {h h' : List O} {tl : List D} {r : Rc} : kF P pr cv fn h (.nrm, ⟨tl, [], r, h'⟩) = leave P fn h none tl h' := by simp [kF, wantT, undo_nil]
theorem kF_pan {fn : Func} {h h' : List O} {tl : List D} {r : Rc} {d : D} : kF P pr cv fn h (.pan d, ⟨tl, [], r, h'⟩) = leave P fn h (some d) tl h' := by simp [kF, wantT, undo_nil]
theorem leave_pan {fn : Func} {h h' : List O} {tl : List D} {d : D} : leave P fn h (some d) tl h' = some (.pan d, gc h.length h h' d) := rfl

/-! ### what is forgotten -/
theorem gc_same {h : List O} {d : D} (hf : Fit h.length d) : gc h.length h h d = h := by
  unfold gc; split <;> simp
theorem gc_more {h ex : List O} {d : D} (hf : Fit h.length d) : gc h.length h (h ++ ex) d = h := by
  unfold gc
  have : Keeps h.length h (h ++ ex) := ⟨by simp, fun i hi o o' h1 h2 => by
    rw [List.getElem?_append_left hi, h1] at h2
    cases h2; exact .inl (.refl _)⟩
  rw [if_pos ⟨hf, this⟩]; simp

/-! ### operands that nobody owns alone -/
theorem tk_plain {tl : List D} {df : List (FuncId × List D)} {r : Rc} {h : List O} {t : Tmp} (ho : ownD (tl.getD t undefD) = false) : tk ⟨tl, df, r, h⟩ (.tmp t) = some (tl.getD t undefD, ⟨tl, df, r, h⟩) := by
  simp only [tk, ho, Bool.false_eq_true, if_false]
theorem sh_plain {tl : List D} {df : List (FuncId × List D)} {r : Rc} {h : List O} {t : Tmp} (ho : ownD (tl.getD t undefD) = false) : sh ⟨tl, df, r, h⟩ (.tmp t) = some (tl.getD t undefD, ⟨tl, df, r, h⟩) := by
  simp only [sh, ho, Bool.false_eq_true, if_false]
theorem rd_tmp {tl : List D} {df : List (FuncId × List D)} {r : Rc} {h : List O} {t : Tmp} : rd ⟨tl, df, r, h⟩ (.tmp t) = some (tl.getD t undefD) := rfl
theorem rd_const {v : Value} : rd s (.const v) = ofV v := rfl
theorem tk_const {v : Value} : tk s (.const v) = (ofV v).map fun d => (d, s) := rfl
theorem sh_const {v : Value} : sh s (.const v) = (ofV v).map fun d => (d, s) := rfl
theorem rd_func {f : FuncId} : rd s (.func f) = some (.func (.func f) [] []) := rfl
theorem ofV_int {j : IntKind} {n : Int} : ofV (.int j n) = some (.e (.int j n)) := rfl
theorem ofV_bool {b : Bool} : ofV (.bool b) = some (.e (.bool b)) := rfl
theorem ofV_str {b : ByteArray} : ofV (.string b) = some (.e (.str b)) := rfl
theorem ofV_nilsl : ofV (.slice none 0 0) = some (.osl false true 0 []) := rfl
theorem ofV_nilfn : ofV .nilFunc = some (.e .nilfn) := rfl
theorem ofV_nilif : ofV .nilIface = some (.e .nilif) := rfl
theorem ofV_nilptr : ofV (.pointer none) = some (.e .nilptr) := rfl

section
variable {dst : Option Tmp} {ty : TypeId} {pos : String} {af : Array Edge} {g : Option (Nat × Bool)} {tl : List D} {df : List (FuncId × List D)} {r : Rc} {h : List O}
theorem exO_move_tmp {t : Tmp} (ho : ownD (tl.getD t undefD) = false) : exOp P l ⟨dst, .move (.tmp t), ty, pos, af, g⟩ ⟨tl, df, r, h⟩ = some (.val (tl.getD t undefD), ⟨tl, df, r, h⟩) := by
  simp only [exOp, tk_plain ho, sh_plain ho]; split <;> rfl
theorem exO_move_const {v : Value} : exOp P l ⟨dst, .move (.const v), ty, pos, af, g⟩ s = (ofV v).map fun d => (.val d, s) := by
  simp only [exOp, tk_const, sh_const]; split <;> cases ofV v <;> rfl
theorem exO_assign {x : Operand} : exOp P l ⟨dst, .assign x, ty, pos, af, g⟩ s = (tk s x).map fun r => (.val r.1, r.2) := rfl
theorem exO_binOp {op : BinOp} {t yt : TypeId} {x y : Operand} : exOp P l ⟨dst, .binOp op t x y yt, ty, pos, af, g⟩ s = match rd s x, rd s y with
    | some a, some b => (binD P op t a b (Region.isConst y)).map fun d => (.val d, s)
    | _, _ => none := rfl
theorem exO_unOp {op : UnOp} {t : TypeId} {x : Operand} : exOp P l ⟨dst, .unOp op t x, ty, pos, af, g⟩ s = match rd s x with
    | some a => (unD op a).map fun d => (.val d, s)
    | none => none := rfl
theorem exO_convert {src dt : TypeId} {x : Operand} : exOp P l ⟨dst, .convert src dt x, ty, pos, af, g⟩ s = match sh s x with
    | some (a, s1) => (convD P src dt a).map fun d => (.val d, s1)
    | none => none := rfl
theorem exO_pick {c a b : Operand} : exOp P l ⟨dst, .pick c a b, ty, pos, af, g⟩ s = match rd s c with
    | some (.e (.bool t)) => (sh s (if t then a else b)).map fun r => (.val r.1, r.2)
    | _ => none := rfl
theorem exO_alloc {t : TypeId} : exOp P l ⟨dst, .alloc t, ty, pos, af, g⟩ s = match zeroOf P t with
    | some z => if notTup z then some (.val (.ptr s.h.length 0), { s with h := s.h ++ [.cells (cellsOf z)] }) else none
    | none => none := rfl
theorem exO_box {t : TypeId} {x : Operand} : exOp P l ⟨dst, .box t x, ty, pos, af, g⟩ s = match tk s x with
    | some (d, s1) => if notTup d then some (.val (.ptr s1.h.length 0), { s1 with h := s1.h ++ [.cells (cellsOf d)] }) else none
    | none => none := rfl
theorem exO_build {t : TypeId} {ps : Array (Nat × Operand)} : exOp P l ⟨dst, .build t ps, ty, pos, af, g⟩ s = match tks s (ps.toList.map (·.2)) with
    | some (ds, s1) => (buildD P t ((ps.toList.map (·.1)).zip ds)).map fun d => (.val d, s1)
    | none => none := rfl
theorem exO_buildSlice {t : TypeId} {n : Nat} {ps : Array (Nat × Operand)} : exOp P l ⟨dst, .buildSlice t n ps, ty, pos, af, g⟩ s = match shs s (ps.toList.map (·.2)) with
    | some (ds, s1) => (buildSliceD P t n ((ps.toList.map (·.1)).zip ds)).map fun d => (.val d, s1)
    | none => none := rfl
theorem exO_load {t : TypeId} {a : Operand} {b : Bool} (ht : (taken l dst || back l a) = b) : exOp P l ⟨dst, .load t a, ty, pos, af, g⟩ s = match (rd s a).bind adOf with
    | some ad => (loadD P s t ad b).map fun r => (.val r.1, r.2)
    | none => none := by simp only [exOp, ht]; rfl
theorem exO_store {t : TypeId} {a x : Operand} : exOp P l ⟨dst, .store t a x, ty, pos, af, g⟩ s = match (rd s a).bind adOf, tk s x with
    | some ad, some (d, s1) => (storeD P s1 t ad d).map fun s2 => (.val undefD, s2)
    | _, _ => none := rfl
theorem exO_nilCheck {x : Operand} : exOp P l ⟨dst, .nilCheck x, ty, pos, af, g⟩ s = match rd s x with
    | some d => match d with
      | .ptr _ _ | .rptr _ _ | .func (.func _) _ _ | .func (.yield _) _ _ => some (.val d, s)
      | _ => none
    | none => none := rfl
theorem exO_makeInterface {t : TypeId} {x : Operand} : exOp P l ⟨dst, .makeInterface t x, ty, pos, af, g⟩ s = match sh s x, P.underlying t with
    | some (d, s1), some u => if isIface u then none else (match d with | .e v => some (.val (.e (.iface t v)), s1) | d => some (.val (.iface t d), s1))
    | _, _ => none := rfl
theorem exO_makeFunc {f : FuncId} {first cap : Array Operand} : exOp P l ⟨dst, .makeFunc (.func f) first cap, ty, pos, af, g⟩ s = match shs s first.toList with
    | some (ds, s1) => match shs s1 cap.toList with
      | some (cs, s2) => some (.val (.func (.func f) ds cs), s2)
      | none => none
    | none => none := rfl
theorem exO_makeMap {t : TypeId} : exOp P l ⟨dst, .makeMap t none, ty, pos, af, g⟩ s = some (.val (.map s.h.length), { s with h := s.h ++ [.map []] }) := rfl
theorem exO_slice {t : TypeId} {x : Operand} {lo hi mx : Option Operand} : exOp P l ⟨dst, .slice t x lo hi mx, ty, pos, af, g⟩ s = match sh s x with
    | some (d, s1) => match optO s1 lo, optO s1 hi, optO s1 mx with
      | some lo, some hi, some mx => (sliceD P t d lo hi mx).map fun d => (.val d, s1)
      | _, _, _ => none
    | none => none := rfl
theorem exO_fieldAddr {t : TypeId} {x : Operand} {f : Nat} : exOp P l ⟨dst, .fieldAddr t x f, ty, pos, af, g⟩ s = match rd s x with
    | some d => (fieldAddrD P t d f).map fun d => (.val d, s)
    | none => none := rfl
theorem exO_indexAddr {t : TypeId} {x ix : Operand} : exOp P l ⟨dst, .indexAddr t x ix, ty, pos, af, g⟩ s = match sh s x with
    | some (d, s1) => match rd s1 ix with
      | some i => (indexAddrD P t d i).map fun d => (.val d, s1)
      | none => none
    | none => none := rfl
theorem exO_panic {x : Operand} : exOp P l ⟨dst, .panic x, ty, pos, af, g⟩ s = match rd s x with
    | some (.iface t d) => some (.pan (.iface t d), s)
    | some (.e (.iface t d)) => some (.pan (.e (.iface t d)), s)
    | _ => none := rfl
theorem exO_extract {t : Tmp} {i : Nat} : exOp P l ⟨dst, .extract (.tmp t) i, ty, pos, af, g⟩ s = match s.t[t]? with
      | some (.tup vs) => match vs[i]? with
        | some d => if ownD d then (if notTup d then some (.val d, { s with t := s.t.set t (.tup (vs.set i (left d))) }) else none) else some (.val d, s)
        | none => none
      | _ => none := rfl
end

end

end Go.Abs

namespace Go.Abs

variable {P : Program} {s : St}

theorem own_e (x : E) : ownD (.e x) = false := of_decide_eq_true rfl
theorem own_undef : ownD undefD = false := of_decide_eq_true rfl
theorem own_osl (sz : Nat) (es : List (List E)) : ownD (.osl false true sz es) = false := of_decide_eq_true rfl
theorem own_ptr (i off : Nat) : ownD (.ptr i off) = false := of_decide_eq_true rfl
theorem own_func (f : Fn) (a b : List D) : ownD (.func f a b) = false := of_decide_eq_true rfl
theorem own_map (i : Nat) : ownD (.map i) = false := of_decide_eq_true rfl
theorem own_asl (i o n : Nat) : ownD (.asl i o n) = false := of_decide_eq_true rfl
theorem own_rptr (cs : List E) (o : Nat) : ownD (.rptr cs o) = false := of_decide_eq_true rfl
theorem own_hdr (n : Nat) : ownD (.hdr n) = false := of_decide_eq_true rfl
theorem own_iface (t : TypeId) (d : D) : ownD (.iface t d) = false := of_decide_eq_true rfl
theorem own_agg (cs : List D) : ownD (.agg cs) = cs.any own0 := rfl
theorem own0_e (x : E) : own0 (.e x) = false := of_decide_eq_true rfl
theorem own0_osl (sz : Nat) (es : List (List E)) : own0 (.osl false true sz es) = false := of_decide_eq_true rfl
theorem own0_hdr (n : Nat) : own0 (.hdr n) = false := of_decide_eq_true rfl

theorem tks_nil : tks s [] = some ([], s) := rfl
theorem tks_cons {x : Operand} {xs : List Operand} : tks s (x :: xs) = match tk s x with
    | some (d, s1) => match tks s1 xs with
      | some (ds, s2) => some (d :: ds, s2)
      | none => none
    | none => none := rfl
theorem shs_nil : shs s [] = some ([], s) := rfl
theorem shs_cons {x : Operand} {xs : List Operand} : shs s (x :: xs) = match sh s x with
    | some (d, s1) => match shs s1 xs with
      | some (ds, s2) => some (d :: ds, s2)
      | none => none
    | none => none := rfl
theorem optO_none : optO s none = some none := rfl
theorem optO_some {x : Operand} : optO s (some x) = (rd s x).map some := rfl

theorem arith_add {k : IntKind} {a b : Int} : arith .add k a b = some (.int k (k.wrap (a + b))) := rfl
theorem arith_sub {k : IntKind} {a b : Int} : arith .sub k a b = some (.int k (k.wrap (a - b))) := rfl
theorem arith_mul {k : IntKind} {a b : Int} : arith .mul k a b = some (.int k (k.wrap (a * b))) := rfl
theorem arith_quo {k : IntKind} {a b : Int} (h : b ≠ 0) : arith .quo k a b = some (.int k (k.wrap (a.tdiv b))) := by simp [arith, h]
theorem arith_rem {k : IntKind} {a b : Int} (h : b ≠ 0) : arith .rem k a b = some (.int k (a.tmod b)) := by simp [arith, h]
theorem arith_and {k : IntKind} {a b : Int} : arith .and k a b = some (.int k (k.wrap (BitVec.ofInt k.bits a &&& BitVec.ofInt k.bits b).toNat)) := rfl
theorem arith_or {k : IntKind} {a b : Int} : arith .or k a b = some (.int k (k.wrap (BitVec.ofInt k.bits a ||| BitVec.ofInt k.bits b).toNat)) := rfl
theorem arith_xor {k : IntKind} {a b : Int} : arith .xor k a b = some (.int k (k.wrap (BitVec.ofInt k.bits a ^^^ BitVec.ofInt k.bits b).toNat)) := rfl
theorem arith_eql {k : IntKind} {a b : Int} : arith .eql k a b = some (.e (.bool (a == b))) := rfl
theorem arith_neq {k : IntKind} {a b : Int} : arith .neq k a b = some (.e (.bool (a != b))) := rfl
theorem arith_lss {k : IntKind} {a b : Int} : arith .lss k a b = some (.e (.bool (decide (a < b)))) := rfl
theorem arith_leq {k : IntKind} {a b : Int} : arith .leq k a b = some (.e (.bool (decide (a ≤ b)))) := rfl
theorem arith_gtr {k : IntKind} {a b : Int} : arith .gtr k a b = some (.e (.bool (decide (b < a)))) := rfl
theorem arith_geq {k : IntKind} {a b : Int} : arith .geq k a b = some (.e (.bool (decide (b ≤ a)))) := rfl
theorem unD_not {b : Bool} : unD .not (.e (.bool b)) = some (.e (.bool (!b))) := rfl
theorem unD_neg {k : IntKind} {a : Int} : unD .neg (.e (.int k a)) = some (.e (.int k (k.wrap (0 - a)))) := rfl

theorem binD_add {t : TypeId} {k : IntKind} {a b : Int} {yc : Bool} : binD P .add t (.e (.int k a)) (.e (.int k b)) yc = arith .add k a b := by simp [binD]
theorem binD_sub {t : TypeId} {k : IntKind} {a b : Int} {yc : Bool} : binD P .sub t (.e (.int k a)) (.e (.int k b)) yc = arith .sub k a b := by simp [binD]
theorem binD_mul {t : TypeId} {k : IntKind} {a b : Int} {yc : Bool} : binD P .mul t (.e (.int k a)) (.e (.int k b)) yc = arith .mul k a b := by simp [binD]
theorem binD_quo {t : TypeId} {k : IntKind} {a b : Int} {yc : Bool} : binD P .quo t (.e (.int k a)) (.e (.int k b)) yc = arith .quo k a b := by simp [binD]
theorem binD_rem {t : TypeId} {k : IntKind} {a b : Int} {yc : Bool} : binD P .rem t (.e (.int k a)) (.e (.int k b)) yc = arith .rem k a b := by simp [binD]
theorem binD_and {t : TypeId} {k : IntKind} {a b : Int} {yc : Bool} : binD P .and t (.e (.int k a)) (.e (.int k b)) yc = arith .and k a b := by simp [binD]
theorem binD_or {t : TypeId} {k : IntKind} {a b : Int} {yc : Bool} : binD P .or t (.e (.int k a)) (.e (.int k b)) yc = arith .or k a b := by simp [binD]
theorem binD_xor {t : TypeId} {k : IntKind} {a b : Int} {yc : Bool} : binD P .xor t (.e (.int k a)) (.e (.int k b)) yc = arith .xor k a b := by simp [binD]
theorem binD_eql {t : TypeId} {k : IntKind} {a b : Int} {yc : Bool} : binD P .eql t (.e (.int k a)) (.e (.int k b)) yc = arith .eql k a b := by simp [binD]
theorem binD_neq {t : TypeId} {k : IntKind} {a b : Int} {yc : Bool} : binD P .neq t (.e (.int k a)) (.e (.int k b)) yc = arith .neq k a b := by simp [binD]
theorem binD_lss {t : TypeId} {k : IntKind} {a b : Int} {yc : Bool} : binD P .lss t (.e (.int k a)) (.e (.int k b)) yc = arith .lss k a b := by simp [binD]
theorem binD_leq {t : TypeId} {k : IntKind} {a b : Int} {yc : Bool} : binD P .leq t (.e (.int k a)) (.e (.int k b)) yc = arith .leq k a b := by simp [binD]
theorem binD_gtr {t : TypeId} {k : IntKind} {a b : Int} {yc : Bool} : binD P .gtr t (.e (.int k a)) (.e (.int k b)) yc = arith .gtr k a b := by simp [binD]
theorem binD_geq {t : TypeId} {k : IntKind} {a b : Int} {yc : Bool} : binD P .geq t (.e (.int k a)) (.e (.int k b)) yc = arith .geq k a b := by simp [binD]
theorem binS_add {t : TypeId} {a b : ByteArray} {yc : Bool} : binD P .add t (.e (.str a)) (.e (.str b)) yc = strD .add a b := by simp [binD]
theorem binS_eql {t : TypeId} {a b : ByteArray} {yc : Bool} : binD P .eql t (.e (.str a)) (.e (.str b)) yc = strD .eql a b := by simp [binD]
theorem binS_neq {t : TypeId} {a b : ByteArray} {yc : Bool} : binD P .neq t (.e (.str a)) (.e (.str b)) yc = strD .neq a b := by simp [binD]
theorem strD_eql {a b : ByteArray} : strD .eql a b = some (.e (.bool (a == b))) := rfl
theorem strD_neq {a b : ByteArray} : strD .neq a b = some (.e (.bool (!(a == b)))) := rfl
theorem binD_shl {t : TypeId} {k k' : IntKind} {a b : Int} {yc : Bool} : binD P .shl t (.e (.int k a)) (.e (.int k' b)) yc = shiftD .shl k a b := rfl
theorem binD_shr {t : TypeId} {k k' : IntKind} {a b : Int} {yc : Bool} : binD P .shr t (.e (.int k a)) (.e (.int k' b)) yc = shiftD .shr k a b := rfl
theorem shiftD_shl {k : IntKind} {a b : Int} (h : ¬ b < 0) : shiftD .shl k a b = some (.e (.int k (k.wrap (a * 2 ^ (min b.toNat k.bits))))) := by simp [shiftD, h]
theorem shiftD_shr {k : IntKind} {a b : Int} (h : ¬ b < 0) : shiftD .shr k a b = some (.e (.int k (a.fdiv (2 ^ (min b.toNat k.bits))))) := by simp [shiftD, h]
theorem binB_eql {t : TypeId} {a b : Bool} {yc : Bool} (h : P.underlying t = some .bool) : binD P .eql t (.e (.bool a)) (.e (.bool b)) yc = some (.e (.bool (a == b))) := by simp [binD, eqT, h, eqB]
theorem binB_neq {t : TypeId} {a b : Bool} {yc : Bool} (h : P.underlying t = some .bool) : binD P .neq t (.e (.bool a)) (.e (.bool b)) yc = some (.e (.bool (!(a == b)))) := by simp [binD, eqT, h, eqB]

theorem exB_len {ats : Array TypeId} {x : Operand} : exBuiltin P .len ats [x] s = match rd s x, ats[0]? with
    | some d, some t => (len0 P t d s.h).map fun n => (.val (.int .i64 n), s)
    | _, _ => none := rfl
theorem exB_append {ats : Array TypeId} {x y : Operand} : exBuiltin P .append ats [x, y] s = match tk s x, ats[0]?, ats[1]? with
    | some (d, s1), some t, some ty =>
      match (match P.underlying ty with | some .string => some true | some (.slice _) => some false | _ => none) with
      | some str => match sh s1 y with
        | some (v, s2) => (appendD P t d v str).map fun r => (.val r, s2)
        | none => none
      | none => none
    | _, _, _ => none := rfl
theorem exB_min {ats : Array TypeId} {x y : Operand} : exBuiltin P .min ats [x, y] s = match rd s x, rd s y with
    | some a, some b => (min2 a b).map fun r => (.val r, s)
    | _, _ => none := rfl
theorem exB_max {ats : Array TypeId} {x y : Operand} : exBuiltin P .max ats [x, y] s = match rd s x, rd s y with
    | some a, some b => (max2 a b).map fun r => (.val r, s)
    | _, _ => none := rfl

theorem tupD_nil : tupD [] = undefD := rfl
theorem tupD_one {d : D} : tupD [d] = d := rfl
theorem tupD_two {a b : D} : tupD [a, b] = .tup [a, b] := rfl
theorem tupD_three {a b c : D} : tupD [a, b, c] = .tup [a, b, c] := rfl

theorem resD_nil : resD P s [] = some ([], s) := rfl
theorem resD_tmp {t : Tmp} {rs : List ResultVar} : resD P s (.tmp t :: rs) = match tk s (.tmp t) with
    | some (d, s1) => match resD P s1 rs with
      | some (ds, s2) => some (d :: ds, s2)
      | none => none
    | none => none := rfl
theorem resD_cell {a : Tmp} {t : TypeId} {rs : List ResultVar} : resD P s (.cell a t :: rs) = match adOf (s.t.getD a undefD) with
    | some ad => match loadD P s t ad true with
      | some (d, s1) => match resD P s1 rs with
        | some (ds, s2) => some (d :: ds, s2)
        | none => none
      | none => none
    | none => none := rfl
theorem leave_eq {fn : Func} {h0 : List O} {t : List D} {h : List O} : leave P fn h0 none t h = match resD P { t := t, d := [], r := .no, h := h } fn.results.toList with
    | some (ds, s2) => some (.val (tupD ds), gc h0.length h0 s2.h (tupD ds))
    | none => none := rfl

variable {fn : Func} {h h' : List O} {tl : List D}
theorem fit_e {n : Nat} {x : E} : Fit n (.e x) = True := eq_true (.e x)
theorem fit_osl {n : Nat} {ex fu : Bool} {sz : Nat} {es : List (List E)} : Fit n (.osl ex fu sz es) = True := eq_true (.osl ex fu sz es)
theorem fit_hdr {n k : Nat} : Fit n (.hdr k) = True := eq_true (.hdr k)
theorem fit_tup {n : Nat} {cs : List D} : Fit n (.tup cs) = ∀ d ∈ cs, Fit n d := propext ⟨fun h => by cases h with | tup _ h => exact h, fun h => .tup cs h⟩
theorem fit_agg {n : Nat} {cs : List D} : Fit n (.agg cs) = ∀ d ∈ cs, Fit n d := propext ⟨fun h => by cases h with | agg _ h => exact h, fun h => .agg cs h⟩

/-! ### memory -/
theorem gc_app0 {h : List O} {a : O} {l : List O} : getCells (h ++ a :: l) h.length = getCells (a :: l) 0 := by simp [getCells]
theorem gc_appn {h l : List O} {j : Nat} : getCells (h ++ l) (h.length + j) = getCells l j := by simp [getCells, List.getElem?_append_right]
theorem gc_hd {cs : List D} {l : List O} : getCells (.cells cs :: l) 0 = some cs := rfl
theorem gc_tl {o : O} {l : List O} {j : Nat} : getCells (o :: l) (j + 1) = getCells l j := by simp [getCells]
theorem hset0 {h l : List O} {a o : O} : (h ++ a :: l).set h.length o = h ++ o :: l := by simp
theorem hsetn {h l : List O} {j : Nat} {o : O} : (h ++ l).set (h.length + j) o = h ++ l.set j o := by rw [List.set_append_right _ _ (by omega)]; simp
theorem hlen {h l : List O} : (h ++ l).length = h.length + l.length := List.length_append
theorem hpush {h l : List O} {o : O} : (h ++ l) ++ [o] = h ++ (l ++ [o]) := List.append_assoc _ _ _
theorem hget0 {h : List O} {a : O} {l : List O} : (h ++ a :: l)[h.length]? = some a := by simp
theorem hgetn {h l : List O} {j : Nat} : (h ++ l)[h.length + j]? = l[j]? := by simp [List.getElem?_append_right]
theorem adOf_ptr {i o : Nat} : adOf (.ptr i o) = some (.ob i o) := rfl
theorem adOf_rptr {cs : List E} {o : Nat} : adOf (.rptr cs o) = some (.ro cs o) := rfl
theorem adD_ob {i o : Nat} : adD (.ob i o) = .ptr i o := rfl
theorem adD_ro {cs : List E} {o : Nat} : adD (.ro cs o) = .rptr cs o := rfl
theorem add_ob {i o n : Nat} : (Ad.ob i o).add n = .ob i (o + n) := rfl
theorem add_ro {cs : List E} {o n : Nat} : (Ad.ro cs o).add n = .ro cs (o + n) := rfl
theorem putAt_eq' {cs : List D} {off : Nat} {new : List D} : putAt cs off new = cs.take off ++ new ++ cs.drop (off + new.length) := rfl
theorem cellsOf_agg {cs : List D} : cellsOf (.agg cs) = cs := rfl
theorem cellsOf_e {x : E} : cellsOf (.e x) = [.e x] := rfl
theorem cellsOf_osl {ex fu : Bool} {sz : Nat} {es : List (List E)} : cellsOf (.osl ex fu sz es) = [.osl ex fu sz es] := rfl
theorem cellsOf_ptr {i o : Nat} : cellsOf (.ptr i o) = [.ptr i o] := rfl
theorem cellsOf_map {i : Nat} : cellsOf (.map i) = [.map i] := rfl
theorem cellsOf_func {f : Fn} {a b : List D} : cellsOf (.func f a b) = [.func f a b] := rfl
theorem notTup_agg {cs : List D} : notTup (.agg cs) = true := of_decide_eq_true rfl
theorem notTup_e {x : E} : notTup (.e x) = true := of_decide_eq_true rfl
theorem notTup_osl {ex fu : Bool} {sz : Nat} {es : List (List E)} : notTup (.osl ex fu sz es) = true := of_decide_eq_true rfl
theorem notTup_ptr {i o : Nat} : notTup (.ptr i o) = true := of_decide_eq_true rfl
theorem notTup_map {i : Nat} : notTup (.map i) = true := of_decide_eq_true rfl
theorem notTup_func {f : Fn} {a b : List D} : notTup (.func f a b) = true := of_decide_eq_true rfl

/-- What a load reads, of what nobody owns. -/
theorem load1 {tl : List D} {df : List (FuncId × List D)} {r : Rc} {H : List O} {t : TypeId} {i off : Nat} {b : Bool} : loadD P ⟨tl, df, r, H⟩ t (.ob i off) b =
    match szOf P t, aggT P t with
    | some n, some ag => match getCells H i with
      | some cs => if off + n ≤ cs.length then
          match ag with
          | true => if ((cs.drop off).take n).any own0 then
                some (.agg (if b then (cs.drop off).take n else ((cs.drop off).take n).map shr0), ⟨tl, df, r, H.set i (.cells (putAt cs off (((cs.drop off).take n).map (if b then left0 else kep0))))⟩)
              else some (.agg ((cs.drop off).take n), ⟨tl, df, r, H⟩)
          | false => match cs[off]? with
            | some d => if own0 d then some (if b then d else shr0 d, ⟨tl, df, r, H.set i (.cells (putAt cs off [if b then left0 d else kep0 d]))⟩) else some (d, ⟨tl, df, r, H⟩)
            | none => none
        else none
      | none => none
    | _, _ => none := by
  simp only [loadD]
  cases szOf P t with
  | none => rfl
  | some n =>
    cases aggT P t with
    | none => rfl
    | some ag => rfl
theorem load0 {s : St} {t : TypeId} {cs : List E} {off : Nat} {b : Bool} : loadD P s t (.ro cs off) b =
    match szOf P t, aggT P t with
    | some n, some ag => if off + n ≤ cs.length then
        match ag with
        | true => some (.agg (((cs.drop off).take n).map .e), s)
        | false => match cs[off]? with
          | some x => some (.e x, s)
          | none => none
      else none
    | _, _ => none := by
  simp only [loadD]
  cases szOf P t with
  | none => rfl
  | some n =>
    cases aggT P t with
    | none => rfl
    | some ag => rfl
theorem store1 {tl : List D} {df : List (FuncId × List D)} {r : Rc} {H : List O} {t : TypeId} {i off : Nat} {d : D} : storeD P ⟨tl, df, r, H⟩ t (.ob i off) d =
    match szOf P t with
    | some n => if (cellsOf d).length = n ∧ notTup d = true then
        match getCells H i with
        | some cs => if off + n ≤ cs.length then some ⟨tl, df, r, H.set i (.cells (putAt cs off (cellsOf d)))⟩ else none
        | none => none
      else none
    | none => none := rfl

/-! ### slices of which nothing is anybody's own -/
theorem len0_of {t e : TypeId} {x : D} {es : List (List E)} {h : List O} (hu : P.underlying t = some (.slice e)) (hs : slOf x = some es) : len0 P t x h = some es.length := by
  unfold len0
  rw [hu]
  cases x with
  | e v => cases v <;> simp_all [slOf]
  | osl => simp_all [slOf]
  | _ => simp [slOf] at hs
theorem len0_str {t : TypeId} {b : ByteArray} {h : List O} (hu : P.underlying t = some .string) : len0 P t (.e (.str b)) h = some b.size := by unfold len0; rw [hu]
theorem len0_asl {t e : TypeId} {i o n : Nat} {h : List O} (hu : P.underlying t = some (.slice e)) : len0 P t (.asl i o n) h = some n := by unfold len0; rw [hu]
theorem len0_hdr {t e : TypeId} {n : Nat} {h : List O} (hu : P.underlying t = some (.slice e)) : len0 P t (.hdr n) h = some n := by unfold len0; rw [hu]
theorem slOf_e {es : List (List E)} : slOf (.e (.sl es)) = some es := rfl
theorem slOf_osl {ex fu : Bool} {sz : Nat} {es : List (List E)} : slOf (.osl ex fu sz es) = some es := rfl

/-- A slice that is there to read: nobody's own; with these rows. -/
structure Rd (d : D) (es : List (List E)) : Prop where
  own : own0 d = false
  sl : slOf d = some es
theorem Rd.ownD {d : D} {es : List (List E)} (h : Rd d es) : ownD d = false := by
  have h1 := h.own; have h2 := h.sl
  cases d <;> simp_all [Abs.ownD, ownA, slOf]
theorem Rd.e {es : List (List E)} : Rd (.e (.sl es)) es := ⟨rfl, rfl⟩
theorem Rd.osl {sz : Nat} {es : List (List E)} : Rd (.osl false true sz es) es := ⟨rfl, rfl⟩
theorem Rd.fit {d : D} {es : List (List E)} (h : Rd d es) (n : Nat) : Fit n d := by
  have h2 := h.sl
  cases d with
  | e x => exact .e x
  | osl => exact .osl _ _ _ _
  | _ => simp [slOf] at h2
theorem Rd.cells {d : D} {es : List (List E)} (h : Rd d es) : cellsOf d = [d] := by
  have h2 := h.sl
  cases d <;> simp_all [slOf, cellsOf]
theorem Rd.notTup {d : D} {es : List (List E)} (h : Rd d es) : notTup d = true := by
  have h2 := h.sl
  cases d <;> simp_all [slOf, Abs.notTup]

theorem ix_of {t e : TypeId} {x : D} {es : List (List E)} {k : IntKind} {i : Int} {sz : Nat} {r : List E} (hu : P.underlying t = some (.slice e)) (hz : szOf P e = some sz) (hs : slOf x = some es) (h0 : 0 ≤ i) (hr : es[i.toNat]? = some r) (hl : r.length = sz) (hp : 0 < sz) :
    indexAddrD P t x (.e (.int k i)) = some (.rptr r 0) := by
  unfold indexAddrD
  rw [hu]
  simp only [hz]
  cases x with
  | e v => simp only [hs, hr]; simp [h0, hl, hp]
  | osl ex fu sz' es' => simp only [hs, hr]; simp [h0, hl, hp]
  | _ => simp [slOf] at hs

/-! ### slots of which only some are told -/
def mkT : List (Option D) → List D → Nat → List D
  | [], _, _ => []
  | some d :: p, ys, i => d :: mkT p ys (i + 1)
  | none :: p, ys, i => ys.getD i undefD :: mkT p ys (i + 1)
theorem inv_intro {pat : List (Option D)} {H : List O} {df : List (FuncId × List D)} {r : Rc} {s : St} (h1 : s.d = df) (h2 : s.r = r) (h3 : s.h = H) (h4 : mkT pat s.t 0 = s.t) : ∃ ys, s = ⟨mkT pat ys 0, df, r, H⟩ :=
  ⟨s.t, by rw [h4]; cases s; simp_all⟩

/-! ### regions whose order is open -/
section
variable {pr : FuncId → List D → Option D} {cv : FuncId → Nat → List Cv} {β : Type} {k : X × St → Option β} {all : Array Oper} {hs : List (Nat × List O)} {ag : List Again} {rest : List Todo} {i bf : Nat} {nm mv : List Tmp}

/-- Of one that changes its slot alone. -/
noncomputable def kdV (P : Program) (pr : FuncId → List D → Option D) (cv : FuncId → Nat → List Cv) (all : Array Oper) (rest : List Todo) (hs : List (Nat × List O)) (ag : List Again) (dst : Option Tmp) (s : St) (k : X × St → Option β) (v : Option D) : Option β :=
  match v with
  | some d => kd P pr cv all rest hs ag (s.put dst d) k
  | none => none
theorem kdV_some {dst : Tmp} {d : D} {tl : List D} {df : List (FuncId × List D)} {r : Rc} {h : List O} : kdV P pr cv all rest hs ag (some dst) ⟨tl, df, r, h⟩ k (some d) = kd P pr cv all rest hs ag ⟨tl.set dst d, df, r, h⟩ k := rfl
noncomputable def kdL (P : Program) (pr : FuncId → List D → Option D) (cv : FuncId → Nat → List Cv) (all : Array Oper) (rest : List Todo) (hs : List (Nat × List O)) (ag : List Again) (s : St) (k : X × St → Option β) (o : Option Oper) : Option β :=
  match o with
  | some o => if want all o s then kdV P pr cv all rest hs ag o.dst s k (exLight P o s) else kd P pr cv all rest hs ag (s.put o.dst undefD) k
  | none => none
theorem kd_l : kd P pr cv all (⟨i, false, false, bf, nm, mv⟩ :: rest) hs ag s k = kdL P pr cv all rest hs ag s k all[i]? := by
  cases ho : all[i]? with
  | none => unfold kd; rw [exDraw]; simp [ho, kdL]
  | some o =>
    cases hw : want all o s with
    | false => rw [kd_skip ho hw]; simp [kdL, hw]
    | true =>
      cases hx : exLight P o s with
      | none => unfold kd; rw [exDraw]; simp [ho, hw, hx, kdL, kdV]
      | some d => rw [kd_light ho hw hx]; simp [kdL, hw, kdV, hx]
theorem kdL_some {dst : Option Tmp} {op : Op} {ty : TypeId} {pos : String} {af : Array Edge} : kdL P pr cv all rest hs ag s k (some ⟨dst, op, ty, pos, af, none⟩) = kdV P pr cv all rest hs ag dst s k (exLight P ⟨dst, op, ty, pos, af, none⟩ s) := by simp [kdL, want]
noncomputable def kdR (P : Program) (pr : FuncId → List D → Option D) (cv : FuncId → Nat → List Cv) (all : Array Oper) (i bf : Nat) (rest : List Todo) (hs : List (Nat × List O)) (ag : List Again) (o : Oper) (s : St) (k : X × St → Option β) (v : Option D) : Option β :=
  match v with
  | some d => open Classical in if sameBack P o bf s.t d hs then kd P pr cv all rest hs ({ i := i, o := o, t := s.t, d := d } :: ag) (s.put o.dst d) k else none
  | none => none
noncomputable def kdRO (P : Program) (pr : FuncId → List D → Option D) (cv : FuncId → Nat → List Cv) (all : Array Oper) (i bf : Nat) (rest : List Todo) (hs : List (Nat × List O)) (ag : List Again) (s : St) (k : X × St → Option β) (o : Option Oper) : Option β :=
  match o with
  | some o => if want all o s then kdR P pr cv all i bf rest hs ag o s k (exLight P o s) else kd P pr cv all rest hs ag (s.put o.dst undefD) k
  | none => none
theorem kd_r : kd P pr cv all (⟨i, false, true, bf, nm, mv⟩ :: rest) hs ag s k = kdRO P pr cv all i bf rest hs ag s k all[i]? := by
  cases ho : all[i]? with
  | none => unfold kd; rw [exDraw]; simp [ho, kdRO]
  | some o =>
    cases hw : want all o s with
    | false => rw [kd_skip ho hw]; simp [kdRO, hw]
    | true =>
      simp only [kdRO, hw, if_true]
      cases hx : exLight P o s with
      | none => unfold kd; rw [exDraw]; simp [ho, hw, hx, kdR]
      | some d =>
        by_cases hb : sameBack P o bf s.t d hs
        · rw [kd_read ho hw hx hb]; simp [kdR, hb]
        · unfold kd; rw [exDraw]; simp [ho, hw, hx, kdR, hb]
theorem kdRO_some {dst : Option Tmp} {op : Op} {ty : TypeId} {pos : String} {af : Array Edge} : kdRO P pr cv all i bf rest hs ag s k (some ⟨dst, op, ty, pos, af, none⟩) = kdR P pr cv all i bf rest hs ag ⟨dst, op, ty, pos, af, none⟩ s k (exLight P ⟨dst, op, ty, pos, af, none⟩ s) := by simp [kdRO, want]
theorem kdR_nil {o : Oper} {d : D} {dst : Tmp} {tl : List D} {df : List (FuncId × List D)} {r : Rc} {h : List O} (hd : o.dst = some dst) : kdR P pr cv all i bf rest [] ag o ⟨tl, df, r, h⟩ k (some d) = kd P pr cv all rest [] ({ i := i, o := o, t := tl, d := d } :: ag) ⟨tl.set dst d, df, r, h⟩ k := by
  simp [kdR, sameBack, St.put, hd]
end

/-- What is sealed ahead. -/
def sealD (d : D) : D := match d with | .tup vs => .tup vs | d => kep d
theorem sealD_plain {d : D} (h : ownD d = false) : sealD d = d := by
  unfold sealD
  split
  · rfl
  · rename_i hn
    exact (kep_same h (by cases d <;> simp_all [notTup])).1
theorem preSeal_nil : preSeal [] s = s := rfl
theorem preSeal_move {dst : Option Tmp} {t : Tmp} {ty : TypeId} {pos : String} {af : Array Edge} {g : Option (Nat × Bool)} {l : List Oper} {tl : List D} {df : List (FuncId × List D)} {r : Rc} {h : List O} :
    preSeal (⟨dst, .move (.tmp t), ty, pos, af, g⟩ :: l) ⟨tl, df, r, h⟩ = preSeal l ⟨tl.set t (sealD (tl.getD t undefD)), df, r, h⟩ := by
  simp only [preSeal, List.foldl_cons]
  congr 1
  generalize hv : tl.getD t undefD = v
  cases v with
  | tup vs =>
    have := set_getD_sameD tl t
    rw [hv] at this
    simp only [sealD, this]
  | _ => rfl
theorem preSeal_other {dst : Option Tmp} {op : Op} {ty : TypeId} {pos : String} {af : Array Edge} {g : Option (Nat × Bool)} {l : List Oper} (h : ∀ t, op ≠ .move (.tmp t)) : preSeal (⟨dst, op, ty, pos, af, g⟩ :: l) s = preSeal l s := by
  cases op with
  | move x =>
    cases x with
    | tmp t => exact absurd rfl (h t)
    | _ => rfl
  | _ => rfl

/-! light ones -/
theorem exL_move {dst : Option Tmp} {t : Tmp} {ty : TypeId} {pos : String} {af : Array Edge} {g : Option (Nat × Bool)} {tl : List D} {df : List (FuncId × List D)} {r : Rc} {h : List O} (ho : ownD (tl.getD t undefD) = false) :
    exLight P ⟨dst, .move (.tmp t), ty, pos, af, g⟩ ⟨tl, df, r, h⟩ = some (tl.getD t undefD) := by
  have hs : sh ⟨tl, df, r, h⟩ (.tmp t) = some (tl.getD t undefD, ⟨tl, df, r, h⟩) := sh_plain ho
  have key : cpD (tl.getD t undefD) = some (tl.getD t undefD) := by
    generalize tl.getD t undefD = v at ho
    unfold cpD
    have he : excD v = false := by
      cases v with
      | osl ex fu sz es => simp [Abs.ownD, ownA, own0] at ho; simp [excD, exc0, ho.1]
      | agg cs =>
        simp only [Abs.ownD, ownA, List.any_eq_false] at ho
        simp only [excD, List.any_eq_false]
        intro x hx
        have := ho x hx
        cases x <;> simp_all [own0, exc0]
      | tup vs => simpa [excD] using ho
      | _ => rfl
    rw [he]
    simp only [Bool.false_eq_true, if_false]
    split
    · rfl
    · rename_i hn
      rw [shr_plain ho (by cases v <;> simp_all [notTup])]
  exact key
theorem exL_const {dst : Option Tmp} {v : Value} {ty : TypeId} {pos : String} {af : Array Edge} {g : Option (Nat × Bool)} : exLight P ⟨dst, .move (.const v), ty, pos, af, g⟩ s = ofV v := rfl
def exLoad (P : Program) (s : St) (t : TypeId) (ad : Ad) : Option D :=
  match ad, szOf P t, aggT P t with
      | .ro _ _, _, _ => (loadD P s t ad false).map (·.1)
      | .ob i off, some n, some ag => match getCells s.h i with
        | some cs => if off + n ≤ cs.length then
            match ag with
            | true => let ds := (cs.drop off).take n; if ds.any exc0 then none else some (.agg (ds.map shr0))
            | false => match cs[off]? with
              | some d => if exc0 d then none else some (shr0 d)
              | none => none
          else none
        | none => none
      | _, _, _ => none
theorem exL_load {dst : Option Tmp} {t : TypeId} {a : Operand} {ty : TypeId} {pos : String} {af : Array Edge} {g : Option (Nat × Bool)} :
    exLight P ⟨dst, .load t a, ty, pos, af, g⟩ s = match (rd s a).bind adOf with
      | some ad => exLoad P s t ad
      | none => none := rfl
theorem exLd_ro {t : TypeId} {cs : List E} {off : Nat} : exLoad P s t (.ro cs off) = (loadD P s t (.ro cs off) false).map (·.1) := by
  unfold exLoad
  cases szOf P t <;> cases aggT P t <;> rfl
theorem exLd_ob {tl : List D} {df : List (FuncId × List D)} {r : Rc} {H : List O} {t : TypeId} {i off : Nat} : exLoad P ⟨tl, df, r, H⟩ t (.ob i off) = match szOf P t, aggT P t with
      | some n, some ag => match getCells H i with
        | some cs => if off + n ≤ cs.length then
            match ag with
            | true => if ((cs.drop off).take n).any exc0 then none else some (.agg (((cs.drop off).take n).map shr0))
            | false => match cs[off]? with
              | some d => if exc0 d then none else some (shr0 d)
              | none => none
          else none
        | none => none
      | _, _ => none := by
  unfold exLoad
  cases szOf P t with
  | none => rfl
  | some n =>
    cases aggT P t with
    | none => rfl
    | some ag => rfl
theorem exc0_e {x : E} : exc0 (.e x) = false := of_decide_eq_true rfl
theorem exc0_osl {fu : Bool} {sz : Nat} {es : List (List E)} : exc0 (.osl false fu sz es) = false := of_decide_eq_true rfl
theorem shr0_e {x : E} : shr0 (.e x) = .e x := rfl
theorem shr0_osl {ex : Bool} {sz : Nat} {es : List (List E)} : shr0 (.osl ex true sz es) = .osl false true sz es := rfl
theorem shr0_osl' {ex : Bool} {sz : Nat} {es : List (List E)} : shr0 (.osl ex false sz es) = .e (.sl es) := rfl
theorem Rd.exc {d : D} {es : List (List E)} (h : Rd d es) : exc0 d = false := by
  have h1 := h.own
  cases d <;> simp_all [own0, exc0]
theorem Rd.shr {d : D} {es : List (List E)} (h : Rd d es) : shr0 d = d := by
  have h1 := h.own
  cases d <;> simp_all [own0, shr0]
def lightOp : Op → Bool
  | .pick _ _ _ => true
  | .build _ _ => true
  | .buildSlice _ _ _ => true
  | .nilCheck _ => true
  | .binOp _ _ _ _ _ => true
  | .unOp _ _ _ => true
  | .convert _ _ _ => true
  | .makeInterface _ _ => true
  | .makeFunc _ _ _ => true
  | .makeSlice _ _ _ => true
  | .slice _ _ _ _ _ => true
  | .fieldAddr _ _ _ => true
  | .field _ _ _ => true
  | .indexAddr _ _ _ => true
  | .index _ _ _ => true
  | .lookup _ _ _ _ => true
  | .typeAssert _ _ _ _ => true
  | .call c => match c.callee with
    | .builtin .len => true
    | _ => false
  | _ => false
theorem lo_pick {a b c : Operand} : lightOp (.pick a b c) = true := of_decide_eq_true rfl
theorem lo_build {t : TypeId} {ps : Array (Nat × Operand)} : lightOp (.build t ps) = true := of_decide_eq_true rfl
theorem lo_buildSlice {t : TypeId} {n : Nat} {ps : Array (Nat × Operand)} : lightOp (.buildSlice t n ps) = true := of_decide_eq_true rfl
theorem lo_nilCheck {x : Operand} : lightOp (.nilCheck x) = true := of_decide_eq_true rfl
theorem lo_binOp {op : BinOp} {t y : TypeId} {a b : Operand} : lightOp (.binOp op t a b y) = true := of_decide_eq_true rfl
theorem lo_unOp {op : UnOp} {t : TypeId} {a : Operand} : lightOp (.unOp op t a) = true := of_decide_eq_true rfl
theorem lo_convert {t u : TypeId} {a : Operand} : lightOp (.convert t u a) = true := of_decide_eq_true rfl
theorem lo_makeInterface {t : TypeId} {a : Operand} : lightOp (.makeInterface t a) = true := of_decide_eq_true rfl
theorem lo_makeFunc {f : Fn} {a b : Array Operand} : lightOp (.makeFunc f a b) = true := of_decide_eq_true rfl
theorem lo_slice {t : TypeId} {x : Operand} {a b c : Option Operand} : lightOp (.slice t x a b c) = true := of_decide_eq_true rfl
theorem lo_fieldAddr {t : TypeId} {x : Operand} {f : Nat} : lightOp (.fieldAddr t x f) = true := of_decide_eq_true rfl
theorem lo_field {t : TypeId} {x : Operand} {f : Nat} : lightOp (.field t x f) = true := of_decide_eq_true rfl
theorem lo_indexAddr {t : TypeId} {x y : Operand} : lightOp (.indexAddr t x y) = true := of_decide_eq_true rfl
theorem lo_index {t : TypeId} {x y : Operand} : lightOp (.index t x y) = true := of_decide_eq_true rfl
theorem lo_lookup {t : TypeId} {x y : Operand} {b : Bool} : lightOp (.lookup t x y b) = true := of_decide_eq_true rfl
theorem lo_len {ats : Array TypeId} {args : Array Operand} : lightOp (.call { callee := .builtin .len, args := args, argTypes := ats }) = true := of_decide_eq_true rfl
theorem lo_typeAssert {x : Operand} {a b : TypeId} {c : Bool} : lightOp (.typeAssert x a b c) = true := of_decide_eq_true rfl
def outV (r : Option (Out × St)) : Option D :=
  match r with
  | some (.val d, _) => some d
  | _ => none
theorem outV_some {d : D} : outV (some (.val d, s)) = some d := rfl
theorem exL_gen' {o : Oper} (h : lightOp o.op = true) (ho : o.op.operands.toList.any (ownOp s) = false) : exLight P o s = outV (exOp P [] o s) := by
  have hh : heavy o.op = false := by
    cases hop : o.op <;> simp_all [lightOp, heavy]
    rename_i c
    cases hc : c.callee <;> simp_all [lightOp]
    rename_i b; cases b <;> simp_all
  unfold exLight
  split
  · rename_i t hop; simp [hop, lightOp] at h
  · rename_i t a hop; simp [hop, lightOp] at h
  · rename_i x _ hop; simp [hop, lightOp] at h
  · rename_i x i hop; simp [hop, lightOp] at h
  · rw [hh, ho]
    simp only [Bool.false_eq_true, if_false]
    unfold outV
    rfl
theorem exL_gen {dst : Option Tmp} {op : Op} {ty : TypeId} {pos : String} {af : Array Edge} {g : Option (Nat × Bool)} (h : lightOp op = true) (ho : op.operands.toList.any (ownOp s) = false) :
    exLight P ⟨dst, op, ty, pos, af, g⟩ s = outV (exOp P [] ⟨dst, op, ty, pos, af, g⟩ s) := exL_gen' h ho
theorem ownOp_tmp {tl : List D} {df : List (FuncId × List D)} {r : Rc} {h : List O} {t : Tmp} : ownOp ⟨tl, df, r, h⟩ (.tmp t) = ownD (tl.getD t undefD) := rfl
theorem ownOp_const {v : Value} : ownOp s (.const v) = false := rfl
theorem ownOp_func {f : FuncId} : ownOp s (.func f) = false := rfl

end Go.Abs
