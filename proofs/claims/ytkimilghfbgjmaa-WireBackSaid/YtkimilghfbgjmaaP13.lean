/-
  RUNNING THE EVALUATOR ON CODE THAT IS GIVEN, step by step, what comes behind as a function. MORE RULES for running the evaluator: values, results. No condition.
-/
import Derived.Test.YtkimilghfbgjmaaP12

namespace Go.Abs

section
variable {P : Program} {pr : FuncId → List D → Option D} {cv : FuncId → Nat → List Cv} {β : Type}

/-- Code, and what comes behind. -/
noncomputable def kx (P : Program) (pr : FuncId → List D → Option D) (cv : FuncId → Nat → List Cv) (fn : FuncId) (c : Code) (s : St) (k : X × St → Option β) : Option β := (exec P pr cv fn c s).bind k
noncomputable def ko (P : Program) (pr : FuncId → List D → Option D) (cv : FuncId → Nat → List Cv) (all : Array Oper) (l : List Oper) (s : St) (k : X × St → Option β) : Option β := (exOps P pr cv all l s).bind k
noncomputable def kIn (P : Program) (pr : FuncId → List D → Option D) (cv : FuncId → Nat → List Cv) (fn : FuncId) (body c : Code) (s : St) (k : X × St → Option β) : Option β := (execIn P pr cv fn body c s).bind k
noncomputable def kd (P : Program) (pr : FuncId → List D → Option D) (cv : FuncId → Nat → List Cv) (all : Array Oper) (l : List Todo) (hs : List (Nat × List O)) (ag : List Again) (s : St) (k : X × St → Option β) : Option β := (Zge P pr cv all l hs ag s).bind k

noncomputable def kSeq (P : Program) (pr : FuncId → List D → Option D) (cv : FuncId → Nat → List Cv) (fn : FuncId) (b : Code) (k : X × St → Option β) : X × St → Option β := fun r =>
  match r.1 with
  | .nrm => kx P pr cv fn b r.2 k
  | x => k (x, r.2)
def kBlk (id : Nat) (k : X × St → Option β) : X × St → Option β := fun r =>
  match r.1 with
  | .ext i => if i = id then k (.nrm, r.2) else k (.ext i, r.2)
  | x => k (x, r.2)
noncomputable def kLoop (P : Program) (pr : FuncId → List D → Option D) (cv : FuncId → Nat → List Cv) (fn : FuncId) (c : Code) (k : X × St → Option β) : X × St → Option β := fun r =>
  match r.1 with
  | .nrm => kx P pr cv fn (.loop c) r.2 k
  | x => k (x, r.2)
noncomputable def kScope (P : Program) (pr : FuncId → List D → Option D) (cv : FuncId → Nat → List Cv) (fn : FuncId) (body : Code) (k : X × St → Option β) : X × St → Option β := fun r =>
  match r.1 with
  | .gto l => match findLabel body l with
    | some rest => kIn P pr cv fn body rest r.2 k
    | none => k (.gto l, r.2)
  | x => k (x, r.2)
/-- Parted by a truth. -/
noncomputable def kCond (P : Program) (pr : FuncId → List D → Option D) (cv : FuncId → Nat → List Cv) (fn : FuncId) (v : D) (a b : Code) (s : St) (k : X × St → Option β) : Option β :=
  match v with
  | .e (.bool t) => match t with
    | true => kx P pr cv fn a s k
    | false => kx P pr cv fn b s k
  | _ => none

variable {fn : FuncId} {a b c : Code} {s : St} {k : X × St → Option β}

theorem Zbz : kx P pr cv fn .skip s k = k (.nrm, s) := by unfold kx; rw [exec]; rfl
theorem kx_label {l : Nat} : kx P pr cv fn (.label l) s k = k (.nrm, s) := by unfold kx; rw [exec]; rfl
theorem Zaz : kx P pr cv fn .ret s k = k (.ret, s) := by unfold kx; rw [exec]; rfl
theorem Zfe {id : Nat} : kx P pr cv fn (.exit id) s k = k (.ext id, s) := by unfold kx; rw [exec]; rfl
theorem Zh6 {id : Nat} : kx P pr cv fn (.goto id) s k = k (.gto id, s) := by unfold kx; rw [exec]; rfl
theorem Zaj : kx P pr cv fn (.seq a b) s k = kx P pr cv fn a s (kSeq P pr cv fn b k) := by
  unfold kx; rw [exec]
  cases h : exec P pr cv fn a s with
  | none => simp
  | some r =>
    obtain ⟨x, s1⟩ := r
    cases x <;> simp [kSeq, kx]
theorem Zc3 {id : Nat} : kx P pr cv fn (.block id c) s k = kx P pr cv fn c s (kBlk id k) := by
  unfold kx; rw [exec]
  cases h : exec P pr cv fn c s with
  | none => simp
  | some r =>
    obtain ⟨x, s1⟩ := r
    cases x <;> simp [kBlk]
    split <;> simp_all
theorem kx_loop : kx P pr cv fn (.loop c) s k = kx P pr cv fn c s (kLoop P pr cv fn c k) := by
  conv => lhs; unfold kx
  rw [exec]
  unfold kx
  cases h : exec P pr cv fn c s with
  | none => simp
  | some r =>
    obtain ⟨x, s1⟩ := r
    cases x <;> simp [kLoop, kx]
theorem Zhm : kx P pr cv fn (.scope c) s k = kIn P pr cv fn c c s k := by unfold kx kIn; rw [exec]
theorem Zht {body : Code} : kIn P pr cv fn body c s k = kx P pr cv fn c s (kScope P pr cv fn body k) := by
  unfold kIn; rw [execIn]
  unfold kx
  cases h : exec P pr cv fn c s with
  | none => simp
  | some r =>
    obtain ⟨x, s1⟩ := r
    cases x <;> simp [kScope]
    split <;> simp_all [kIn]
theorem kx_cond {o : Operand} {d : D} (h : rd s o = some d) : kx P pr cv fn (.cond o a b) s k = kCond P pr cv fn d a b s k := by
  unfold kx; rw [exec]
  simp only [h]
  unfold kCond
  split
  · rename_i t ht
    cases ht
    cases t <;> rfl
  · rename_i hn
    cases d with
    | e x =>
      cases x with
      | bool t => exact absurd rfl (hn t)
      | _ => rfl
    | _ => rfl
theorem Za7 {t : Tmp} {tl : List D} {d : List (FuncId × List D)} {r : Rc} {h : List O} : kx P pr cv fn (.cond (.tmp t) a b) ⟨tl, d, r, h⟩ k = kCond P pr cv fn (tl.getD t Zav) a b ⟨tl, d, r, h⟩ k := kx_cond rfl
theorem Zal : kCond P pr cv fn (.e (.bool true)) a b s k = kx P pr cv fn a s k := rfl
theorem Zar : kCond P pr cv fn (.e (.bool false)) a b s k = kx P pr cv fn b s k := rfl

theorem Za3 : kSeq P pr cv fn b k (.nrm, s) = kx P pr cv fn b s k := rfl
theorem Zbr : kSeq P pr cv fn b k (.ret, s) = k (.ret, s) := rfl
theorem Zeg {i : Nat} : kSeq P pr cv fn b k (.ext i, s) = k (.ext i, s) := rfl
theorem Zgc {i : Nat} : kSeq P pr cv fn b k (.gto i, s) = k (.gto i, s) := rfl
theorem kSeq_pan {d : D} : kSeq P pr cv fn b k (.pan d, s) = k (.pan d, s) := rfl
theorem Zc8 {id : Nat} : kBlk id k (.nrm, s) = k (.nrm, s) := rfl
theorem Zcl {id : Nat} : kBlk id k (.ret, s) = k (.ret, s) := rfl
theorem Zeh {id i : Nat} : kBlk id k (.ext i, s) = if i = id then k (.nrm, s) else k (.ext i, s) := rfl
theorem kBlk_gto {id i : Nat} : kBlk id k (.gto i, s) = k (.gto i, s) := rfl
theorem kBlk_pan {id : Nat} {d : D} : kBlk id k (.pan d, s) = k (.pan d, s) := rfl
theorem Ze8 : kLoop P pr cv fn c k (.nrm, s) = kx P pr cv fn (.loop c) s k := rfl
theorem Zfy : kLoop P pr cv fn c k (.ret, s) = k (.ret, s) := rfl
theorem Zdu {i : Nat} : kLoop P pr cv fn c k (.ext i, s) = k (.ext i, s) := rfl
theorem kLoop_gto {i : Nat} : kLoop P pr cv fn c k (.gto i, s) = k (.gto i, s) := rfl
theorem kLoop_pan {d : D} : kLoop P pr cv fn c k (.pan d, s) = k (.pan d, s) := rfl
theorem Ziv : kScope P pr cv fn c k (.nrm, s) = k (.nrm, s) := rfl
theorem Zdq : kScope P pr cv fn c k (.ret, s) = k (.ret, s) := rfl
theorem kScope_ext {i : Nat} : kScope P pr cv fn c k (.ext i, s) = k (.ext i, s) := rfl
theorem kScope_gto {l : Nat} {rest : Code} (h : findLabel c l = some rest) : kScope P pr cv fn c k (.gto l, s) = kIn P pr cv fn c rest s k := by simp [kScope, h]
theorem kScope_pan {d : D} : kScope P pr cv fn c k (.pan d, s) = k (.pan d, s) := rfl

/-- A loop: by a number that falls. -/
theorem Zfd {res : Option β} (inv : Nat → St → Prop) (step : ∀ n s, inv n s → (∀ m s', m < n → inv m s' → kx P pr cv fn (.loop c) s' k = res) → kx P pr cv fn c s (kLoop P pr cv fn c k) = res) (n : Nat) (h : inv n s) :
    kx P pr cv fn (.loop c) s k = res := by
  induction n using Nat.strongRecOn generalizing s with
  | _ n ih =>
    rw [kx_loop]
    exact step n s h (fun m s' hm h' => ih m hm h')

/-! ### regions -/
theorem Za1 {id : Nat} {ops : Array Oper} (hc : cv fn id = []) : kx P pr cv fn (.region id ops false) s k = ko P pr cv ops ops.toList s k := by
  unfold kx ko; rw [exec]; simp [hc, Ze2]
theorem Zcy {id : Nat} {ops : Array Oper} : kx P pr cv fn (.region id ops false) s k = ko P pr cv ops ops.toList (Ze2 (cv fn id) s) k := by
  unfold kx ko; rw [exec]
theorem Zf8 {id : Nat} {ops : Array Oper} {l : List Todo} (hp : Zgh ops = some l) : kx P pr cv fn (.region id ops true) s k = kd P pr cv ops l [] [] (Zgz ops.toList (Ze2 (cv fn id) s)) k := by
  unfold kx kd; rw [exec]; simp [hp]

/-! ### regions whose order is open -/
section
variable {all : Array Oper} {hs : List (Nat × List O)} {ag : List Again}
theorem Ze5 : kd P pr cv all [] hs ag s k = k (.nrm, s) := by unfold kd; rw [Zge]; rfl

theorem kd_light {i bf : Nat} {nm mv : List Tmp} {rest : List Todo} {o : Oper} {d : D} (ho : all[i]? = some o) (hg : want all o s = true) (hx : Zdp P o s = some d) :
    kd P pr cv all (⟨i, false, false, bf, nm, mv⟩ :: rest) hs ag s k = kd P pr cv all rest hs ag (s.put o.dst d) k := by
  unfold kd; rw [Zge]; simp [ho, hg, hx]
theorem kd_read {i bf : Nat} {nm mv : List Tmp} {rest : List Todo} {o : Oper} {d : D} (ho : all[i]? = some o) (hg : want all o s = true) (hx : Zdp P o s = some d) (hb : Ziz P o bf s.t d hs) :
    kd P pr cv all (⟨i, false, true, bf, nm, mv⟩ :: rest) hs ag s k = kd P pr cv all rest hs ({ i := i, o := o, t := s.t, d := d } :: ag) (s.put o.dst d) k := by
  unfold kd; rw [Zge]; simp [ho, hg, hx, hb]
theorem kd_skip {td : Todo} {rest : List Todo} {o : Oper} (ho : all[td.i]? = some o) (hg : want all o s = false) :
    kd P pr cv all (td :: rest) hs ag s k = kd P pr cv all rest hs ag (s.put o.dst Zav) k := by
  unfold kd; rw [Zge]; simp [ho, hg]
theorem kd_oper {i bf : Nat} {rd : Bool} {nm mv : List Tmp} {rest : List Todo} {o : Oper} {d : D} {s1 : St} (ho : all[i]? = some o) (hg : want all o s = true) (hc : calmAt ⟨i, true, rd, bf, nm, mv⟩ s.t = true) (hk : Zfb o s = .other) (hx : exOp P [] o s = some (.val d, s1)) (ha : Zis P bf s1.h ag) :
    kd P pr cv all (⟨i, true, rd, bf, nm, mv⟩ :: rest) hs ag s k = kd P pr cv all rest ((i, s.h) :: hs) ag (s1.put o.dst d) k := by
  unfold kd; rw [Zge]; simp [ho, hg, hc, hk, hx, ha]
theorem kd_call {i bf : Nat} {rd : Bool} {nm mv : List Tmp} {rest : List Todo} {o : Oper} {g : Tgt} {args : List D} {d : D} {s1 : St} {h : List O} (ho : all[i]? = some o) (hg : want all o s = true) (hc : calmAt ⟨i, true, rd, bf, nm, mv⟩ s.t = true) (hk : Zfb o s = .go g args s1) (hx : call P pr cv g args s1.h = some (.val d, h)) (ha : Zis P bf h ag) :
    kd P pr cv all (⟨i, true, rd, bf, nm, mv⟩ :: rest) hs ag s k = kd P pr cv all rest ((i, s.h) :: hs) ag (({ s1 with h := h } : St).put o.dst d) k := by
  unfold kd; rw [Zge]; simp [ho, hg, hc, hk, hx, ha]
end

variable {all : Array Oper} {l : List Oper}
theorem Zae : ko P pr cv all [] s k = k (.nrm, s) := by unfold ko; rw [exOps]; rfl

/-- An operation is done: its value into its slot. -/
noncomputable def kR (P : Program) (pr : FuncId → List D → Option D) (cv : FuncId → Nat → List Cv) (all : Array Oper) (l : List Oper) (dst : Option Tmp) (k : X × St → Option β) (r : Option (Out × St)) : Option β :=
  match r with
  | some (.val d, s1) => ko P pr cv all l (s1.put dst d) k
  | some (.pan d, s1) => k (.pan d, s1)
  | _ => none
theorem Za9 {dst : Tmp} {d : D} {tl : List D} {df : List (FuncId × List D)} {r : Rc} {h : List O} : kR P pr cv all l (some dst) k (some (.val d, ⟨tl, df, r, h⟩)) = ko P pr cv all l ⟨tl.set dst d, df, r, h⟩ k := rfl
theorem Zce {d : D} : kR P pr cv all l none k (some (.val d, s)) = ko P pr cv all l s k := rfl
theorem kR_pan {dst : Option Tmp} {d : D} : kR P pr cv all l dst k (some (.pan d, s)) = k (.pan d, s) := rfl

/-- Is it wanted? -/
noncomputable def kG (P : Program) (pr : FuncId → List D → Option D) (cv : FuncId → Nat → List Cv) (v : D) (b : Bool) (all : Array Oper) (o : Oper) (l : List Oper) (s : St) (k : X × St → Option β) : Option β :=
  if (match v with | .e (.bool c) => c == b | _ => false) then ko P pr cv all ({ o with guard := none } :: l) s k else ko P pr cv all l (s.put o.dst Zav) k
theorem Zc0 {o : Oper} {c b : Bool} (h : c = b) : kG P pr cv (.e (.bool c)) b all o l s k = ko P pr cv all ({ o with guard := none } :: l) s k := by simp [kG, h]
theorem Zdl {o : Oper} {c b : Bool} (h : c = !b) : kG P pr cv (.e (.bool c)) b all o l s k = ko P pr cv all l (s.put o.dst Zav) k := by cases c <;> cases b <;> simp_all [kG]

theorem kG_undef {o : Oper} {b : Bool} : kG P pr cv Zav b all o l s k = ko P pr cv all l (s.put o.dst Zav) k := rfl

theorem exOps_cons {o : Oper} (hg : o.guard = none) : exOps P pr cv all (o :: l) s = match Zfb o s with
      | .bad => none
      | .go g args s1 => (call P pr cv g args s1.h).bind fun r => match r.1 with
        | .val d => exOps P pr cv all l (({ s1 with h := r.2 } : St).put o.dst d)
        | .pan d => some (.pan d, { s1 with h := r.2 })
        | .rcv _ => none
      | .other => match exOp P l o s with
        | some (.val d, s1) => exOps P pr cv all l (s1.put o.dst d)
        | some (.pan d, s1) => some (.pan d, s1)
        | _ => none := by rw [exOps]; simp only [want, hg, if_true]; rfl

theorem Zak {dst : Option Tmp} {op : Op} {ty : TypeId} {pos : String} {af : Array Edge} {j t : Nat} {b : Bool} {tl : List D} {df : List (FuncId × List D)} {r : Rc} {h : List O} (hj : (all[j]?).bind (·.dst) = some t) (ht : t < tl.length) :
    ko P pr cv all (⟨dst, op, ty, pos, af, some (j, b)⟩ :: l) ⟨tl, df, r, h⟩ k = kG P pr cv (tl.getD t Zav) b all ⟨dst, op, ty, pos, af, none⟩ l ⟨tl, df, r, h⟩ k := by
  unfold ko kG
  have hw : want all ⟨dst, op, ty, pos, af, some (j, b)⟩ ⟨tl, df, r, h⟩ = (match tl.getD t Zav with | .e (.bool c) => c == b | _ => false) := by
    simp only [want, hj]
    rw [List.getD_eq_getElem?_getD, List.getElem?_eq_getElem ht]
    simp only [Option.getD_some]
    cases tl[t] with
    | e x => cases x <;> rfl
    | _ => rfl
  have hko : Zfb ⟨dst, op, ty, pos, af, some (j, b)⟩ ⟨tl, df, r, h⟩ = Zfb ⟨dst, op, ty, pos, af, none⟩ ⟨tl, df, r, h⟩ := rfl
  have hex : exOp P l ⟨dst, op, ty, pos, af, some (j, b)⟩ ⟨tl, df, r, h⟩ = exOp P l ⟨dst, op, ty, pos, af, none⟩ ⟨tl, df, r, h⟩ := rfl
  rw [exOps]
  simp only [hw, hko, hex]
  by_cases hc : (match tl.getD t Zav with | .e (.bool c) => c == b | _ => false) = true
  · rw [if_pos hc, if_pos hc]
    unfold ko; rw [exOps_cons rfl]; rfl
  · rw [if_neg hc, if_neg hc]; rfl

theorem Zao {dst : Option Tmp} {op : Op} {ty : TypeId} {pos : String} {af : Array Edge} (hk : ∀ c, op ≠ .call c) : ko P pr cv all (⟨dst, op, ty, pos, af, none⟩ :: l) s k = kR P pr cv all l dst k (exOp P l ⟨dst, op, ty, pos, af, none⟩ s) := by
  unfold ko
  rw [exOps_cons rfl]
  have : Zfb ⟨dst, op, ty, pos, af, none⟩ s = .other := by
    unfold Zfb; cases op <;> simp_all
  rw [this]
  simp only
  unfold kR
  cases hx : exOp P l ⟨dst, op, ty, pos, af, none⟩ s with
  | none => rfl
  | some r =>
    obtain ⟨o, s1⟩ := r
    cases o <;> rfl

theorem Zbb {dst : Option Tmp} {b : Builtin} {args : Array Operand} {ats : Array TypeId} {ty : TypeId} {pos : String} {af : Array Edge} :
    ko P pr cv all (⟨dst, .call { callee := .builtin b, args := args, argTypes := ats }, ty, pos, af, none⟩ :: l) s k = kR P pr cv all l dst k (Zfs P b ats args.toList s) := by
  unfold ko
  rw [exOps_cons rfl]
  simp only [Zfb, exOp]
  unfold kR
  cases hx : Zfs P b ats args.toList s with
  | none => rfl
  | some r =>
    obtain ⟨o, s1⟩ := r
    cases o <;> rfl

/-- Behind a call. -/
noncomputable def kC (P : Program) (pr : FuncId → List D → Option D) (cv : FuncId → Nat → List Cv) (all : Array Oper) (l : List Oper) (dst : Option Tmp) (s1 : St) (k : X × St → Option β) (r : Option (Out × List O)) : Option β :=
  match r with
  | some (.val d, h) => ko P pr cv all l (({ s1 with h := h } : St).put dst d) k
  | some (.pan d, h) => k (.pan d, { s1 with h := h })
  | _ => none
theorem Zbq {dst : Tmp} {d : D} {tl : List D} {df : List (FuncId × List D)} {r : Rc} {h0 h : List O} : kC P pr cv all l (some dst) ⟨tl, df, r, h0⟩ k (some (.val d, h)) = ko P pr cv all l ⟨tl.set dst d, df, r, h⟩ k := rfl
theorem kC_val0 {d : D} {tl : List D} {df : List (FuncId × List D)} {r : Rc} {h0 h : List O} : kC P pr cv all l none ⟨tl, df, r, h0⟩ k (some (.val d, h)) = ko P pr cv all l ⟨tl, df, r, h⟩ k := rfl
theorem kC_pan {dst : Option Tmp} {d : D} {tl : List D} {df : List (FuncId × List D)} {r : Rc} {h0 h : List O} : kC P pr cv all l dst ⟨tl, df, r, h0⟩ k (some (.pan d, h)) = k (.pan d, ⟨tl, df, r, h⟩) := rfl

theorem ko_go {o : Oper} {g : Tgt} {args : List D} {s1 : St} (hg : o.guard = none) (hk : Zfb o s = .go g args s1) : ko P pr cv all (o :: l) s k = kC P pr cv all l o.dst s1 k (call P pr cv g args s1.h) := by
  unfold ko
  rw [exOps_cons hg, hk]
  simp only
  unfold kC
  cases hx : call P pr cv g args s1.h with
  | none => rfl
  | some r =>
    obtain ⟨o, s1⟩ := r
    cases o <;> rfl

/-- A call of a function that is named. -/
noncomputable def kT (P : Program) (pr : FuncId → List D → Option D) (cv : FuncId → Nat → List Cv) (f : FuncId) (all : Array Oper) (l : List Oper) (dst : Option Tmp) (k : X × St → Option β) (r : Option (List D × St)) : Option β :=
  match r with
  | some (ds, s1) => kC P pr cv all l dst s1 k (call P pr cv (.fn f) ds s1.h)
  | none => none
theorem Zbf {f : FuncId} {dst : Option Tmp} {ds : List D} {tl : List D} {df : List (FuncId × List D)} {r : Rc} {h : List O} : kT P pr cv f all l dst k (some (ds, ⟨tl, df, r, h⟩)) = kC P pr cv all l dst ⟨tl, df, r, h⟩ k (call P pr cv (.fn f) ds h) := rfl
theorem Zbe {dst : Option Tmp} {f : FuncId} {args : Array Operand} {ats : Array TypeId} {ty : TypeId} {pos : String} {af : Array Edge} :
    ko P pr cv all (⟨dst, .call { callee := .value (.func f), args := args, argTypes := ats }, ty, pos, af, none⟩ :: l) s k = kT P pr cv f all l dst k (tks s args.toList) := by
  cases ht : tks s args.toList with
  | none =>
    unfold ko kT
    rw [exOps_cons rfl]
    simp [Zfb, rd, ht]
  | some r =>
    obtain ⟨ds, s1⟩ := r
    exact ko_go rfl (by simp [Zfb, rd, ht, noOwn])

/-! ### a call -/
/-- Behind a function's code. -/
noncomputable def kF (P : Program) (pr : FuncId → List D → Option D) (cv : FuncId → Nat → List Cv) (fn : Func) (h : List O) : X × St → Option (Out × List O) := fun r =>
  match wantT r.1 with
  | some u => (undo P pr cv r.2.d u r.2.h).bind fun q => leave P fn h q.1 r.2.t q.2
  | none => none
theorem Zbt {f : FuncId} {args : List D} {h : List O} {fn : Func} {c : Code} (h0 : pr f args = none) (h1 : P.funcs[f]? = some fn) (h2 : bodyOf fn = some c) :
    call P pr cv (.fn f) args h = kx P pr cv f c { t := Zbi fn args, d := [], r := .no, h := h } (kF P pr cv fn h) := by
  rw [call]; simp only [h0, h1, h2]; rfl
theorem call_pr {f : FuncId} {args : List D} {h : List O} {d : D} (h0 : pr f args = some d) : call P pr cv (.fn f) args h = some (.val d, h) := by
  rw [call]; simp only [h0]
theorem undo_nil {u : Option D} {h : List O} : undo P pr cv [] u h = some (u, h) := by rw [undo]
theorem Zb0 {fn : Func} {h h' : List O} {tl : List D} {r : Rc} : kF P pr cv fn h (.ret, ⟨tl, [], r, h'⟩) = leave P fn h none tl h' := by simp [kF, wantT, undo_nil]
theorem Zer {fn : Func} {h h' : List O} {tl : List D} {r : Rc} : kF P pr cv fn h (.nrm, ⟨tl, [], r, h'⟩) = leave P fn h none tl h' := by simp [kF, wantT, undo_nil]
theorem kF_pan {fn : Func} {h h' : List O} {tl : List D} {r : Rc} {d : D} : kF P pr cv fn h (.pan d, ⟨tl, [], r, h'⟩) = leave P fn h (some d) tl h' := by simp [kF, wantT, undo_nil]
theorem leave_pan {fn : Func} {h h' : List O} {tl : List D} {d : D} : leave P fn h (some d) tl h' = some (.pan d, gc h.length h h' d) := rfl

/-! ### what is forgotten -/
theorem Zcn {h : List O} {d : D} (hf : Fit h.length d) : gc h.length h h d = h := by
  unfold gc; split <;> simp
theorem Zb2 {h ex : List O} {d : D} (hf : Fit h.length d) : gc h.length h (h ++ ex) d = h := by
  unfold gc
  have : Keeps h.length h (h ++ ex) := ⟨by simp, fun i hi o o' h1 h2 => by
    rw [List.getElem?_append_left hi, h1] at h2
    cases h2; exact .inl (.refl _)⟩
  rw [if_pos ⟨hf, this⟩]; simp

/-! ### operands that nobody owns alone -/
theorem Za4 {tl : List D} {df : List (FuncId × List D)} {r : Rc} {h : List O} {t : Tmp} (ho : ownD (tl.getD t Zav) = false) : tk ⟨tl, df, r, h⟩ (.tmp t) = some (tl.getD t Zav, ⟨tl, df, r, h⟩) := by
  simp only [tk, ho, Bool.false_eq_true, if_false]
theorem Zaf {tl : List D} {df : List (FuncId × List D)} {r : Rc} {h : List O} {t : Tmp} (ho : ownD (tl.getD t Zav) = false) : sh ⟨tl, df, r, h⟩ (.tmp t) = some (tl.getD t Zav, ⟨tl, df, r, h⟩) := by
  simp only [sh, ho, Bool.false_eq_true, if_false]
theorem Zac {tl : List D} {df : List (FuncId × List D)} {r : Rc} {h : List O} {t : Tmp} : rd ⟨tl, df, r, h⟩ (.tmp t) = some (tl.getD t Zav) := rfl
theorem Zai {v : Value} : rd s (.const v) = ofV v := rfl
theorem Zaq {v : Value} : tk s (.const v) = (ofV v).map fun d => (d, s) := rfl
theorem Zb7 {v : Value} : sh s (.const v) = (ofV v).map fun d => (d, s) := rfl
theorem rd_func {f : FuncId} : rd s (.func f) = some (.func (.func f) [] []) := rfl
theorem Zan {j : IntKind} {n : Int} : ofV (.int j n) = some (.e (.int j n)) := rfl
theorem Zax {b : Bool} : ofV (.bool b) = some (.e (.bool b)) := rfl
theorem Zj2 {b : ByteArray} : ofV (.string b) = some (.e (.str b)) := rfl
theorem Zcj : ofV (.slice none 0 0) = some (.osl false true 0 []) := rfl
theorem Zdt : ofV .nilFunc = some (.e .nilfn) := rfl
theorem Zj4 : ofV .nilIface = some (.e .nilif) := rfl
theorem ofV_nilptr : ofV (.pointer none) = some (.e .nilptr) := rfl

section
variable {dst : Option Tmp} {ty : TypeId} {pos : String} {af : Array Edge} {g : Option (Nat × Bool)} {tl : List D} {df : List (FuncId × List D)} {r : Rc} {h : List O}
theorem Za2 {t : Tmp} (ho : ownD (tl.getD t Zav) = false) : exOp P l ⟨dst, .move (.tmp t), ty, pos, af, g⟩ ⟨tl, df, r, h⟩ = some (.val (tl.getD t Zav), ⟨tl, df, r, h⟩) := by
  simp only [exOp, Za4 ho, Zaf ho]; split <;> rfl
theorem Zep {v : Value} : exOp P l ⟨dst, .move (.const v), ty, pos, af, g⟩ s = (ofV v).map fun d => (.val d, s) := by
  simp only [exOp, Zaq, Zb7]; split <;> cases ofV v <;> rfl
theorem Za0 {x : Operand} : exOp P l ⟨dst, .assign x, ty, pos, af, g⟩ s = (tk s x).map fun r => (.val r.1, r.2) := rfl
theorem Za6 {op : BinOp} {t yt : TypeId} {x y : Operand} : exOp P l ⟨dst, .binOp op t x y yt, ty, pos, af, g⟩ s = match rd s x, rd s y with
    | some a, some b => (binD P op t a b (Region.isConst y)).map fun d => (.val d, s)
    | _, _ => none := rfl
theorem Zdn {op : UnOp} {t : TypeId} {x : Operand} : exOp P l ⟨dst, .unOp op t x, ty, pos, af, g⟩ s = match rd s x with
    | some a => (unD op a).map fun d => (.val d, s)
    | none => none := rfl
theorem Zck {src dt : TypeId} {x : Operand} : exOp P l ⟨dst, .convert src dt x, ty, pos, af, g⟩ s = match sh s x with
    | some (a, s1) => (convD P src dt a).map fun d => (.val d, s1)
    | none => none := rfl
theorem Zam {c a b : Operand} : exOp P l ⟨dst, .pick c a b, ty, pos, af, g⟩ s = match rd s c with
    | some (.e (.bool t)) => (sh s (if t then a else b)).map fun r => (.val r.1, r.2)
    | _ => none := rfl
theorem Zdz {t : TypeId} : exOp P l ⟨dst, .alloc t, ty, pos, af, g⟩ s = match Zgs P t with
    | some z => if notTup z then some (.val (.ptr s.h.length 0), { s with h := s.h ++ [.cells (cellsOf z)] }) else none
    | none => none := rfl
theorem Zd2 {t : TypeId} {x : Operand} : exOp P l ⟨dst, .box t x, ty, pos, af, g⟩ s = match tk s x with
    | some (d, s1) => if notTup d then some (.val (.ptr s1.h.length 0), { s1 with h := s1.h ++ [.cells (cellsOf d)] }) else none
    | none => none := rfl
theorem Zdv {t : TypeId} {ps : Array (Nat × Operand)} : exOp P l ⟨dst, .build t ps, ty, pos, af, g⟩ s = match tks s (ps.toList.map (·.2)) with
    | some (ds, s1) => (buildD P t ((ps.toList.map (·.1)).zip ds)).map fun d => (.val d, s1)
    | none => none := rfl
theorem Zby {t : TypeId} {n : Nat} {ps : Array (Nat × Operand)} : exOp P l ⟨dst, .buildSlice t n ps, ty, pos, af, g⟩ s = match shs s (ps.toList.map (·.2)) with
    | some (ds, s1) => (Ze9 P t n ((ps.toList.map (·.1)).zip ds)).map fun d => (.val d, s1)
    | none => none := rfl
theorem Zag {t : TypeId} {a : Operand} {b : Bool} (ht : (taken l dst || back l a) = b) : exOp P l ⟨dst, .load t a, ty, pos, af, g⟩ s = match (rd s a).bind adOf with
    | some ad => (loadD P s t ad b).map fun r => (.val r.1, r.2)
    | none => none := by simp only [exOp, ht]; rfl
theorem Zbc {t : TypeId} {a x : Operand} : exOp P l ⟨dst, .store t a x, ty, pos, af, g⟩ s = match (rd s a).bind adOf, tk s x with
    | some ad, some (d, s1) => (storeD P s1 t ad d).map fun s2 => (.val Zav, s2)
    | _, _ => none := rfl
theorem Zbd {x : Operand} : exOp P l ⟨dst, .nilCheck x, ty, pos, af, g⟩ s = match rd s x with
    | some d => match d with
      | .ptr _ _ | .rptr _ _ | .func (.func _) _ _ | .func (.yield _) _ _ => some (.val d, s)
      | _ => none
    | none => none := rfl
theorem Zf4 {t : TypeId} {x : Operand} : exOp P l ⟨dst, .makeInterface t x, ty, pos, af, g⟩ s = match sh s x, P.underlying t with
    | some (d, s1), some u => if isIface u then none else (match d with | .e v => some (.val (.e (.iface t v)), s1) | d => some (.val (.iface t d), s1))
    | _, _ => none := rfl
theorem Zec {f : FuncId} {first cap : Array Operand} : exOp P l ⟨dst, .makeFunc (.func f) first cap, ty, pos, af, g⟩ s = match shs s first.toList with
    | some (ds, s1) => match shs s1 cap.toList with
      | some (cs, s2) => some (.val (.func (.func f) ds cs), s2)
      | none => none
    | none => none := rfl
theorem Zhe {t : TypeId} : exOp P l ⟨dst, .makeMap t none, ty, pos, af, g⟩ s = some (.val (.map s.h.length), { s with h := s.h ++ [.map []] }) := rfl
theorem Zg9 {t : TypeId} {x : Operand} {lo hi mx : Option Operand} : exOp P l ⟨dst, .slice t x lo hi mx, ty, pos, af, g⟩ s = match sh s x with
    | some (d, s1) => match optO s1 lo, optO s1 hi, optO s1 mx with
      | some lo, some hi, some mx => (sliceD P t d lo hi mx).map fun d => (.val d, s1)
      | _, _, _ => none
    | none => none := rfl
theorem Za5 {t : TypeId} {x : Operand} {f : Nat} : exOp P l ⟨dst, .fieldAddr t x f, ty, pos, af, g⟩ s = match rd s x with
    | some d => (Za8 P t d f).map fun d => (.val d, s)
    | none => none := rfl
theorem Zbl {t : TypeId} {x ix : Operand} : exOp P l ⟨dst, .indexAddr t x ix, ty, pos, af, g⟩ s = match sh s x with
    | some (d, s1) => match rd s1 ix with
      | some i => (Zdr P t d i).map fun d => (.val d, s1)
      | none => none
    | none => none := rfl
theorem exO_panic {x : Operand} : exOp P l ⟨dst, .panic x, ty, pos, af, g⟩ s = match rd s x with
    | some (.iface t d) => some (.pan (.iface t d), s)
    | some (.e (.iface t d)) => some (.pan (.e (.iface t d)), s)
    | _ => none := rfl
theorem Zc7 {t : Tmp} {i : Nat} : exOp P l ⟨dst, .extract (.tmp t) i, ty, pos, af, g⟩ s = match s.t[t]? with
      | some (.tup vs) => match vs[i]? with
        | some d => if ownD d then (if notTup d then some (.val d, { s with t := s.t.set t (.tup (vs.set i (left d))) }) else none) else some (.val d, s)
        | none => none
      | _ => none := rfl
end

end

end Go.Abs

namespace Go.Abs

variable {P : Program} {s : St}

theorem Zau (x : E) : ownD (.e x) = false := of_decide_eq_true rfl
theorem Zef : ownD Zav = false := of_decide_eq_true rfl
theorem Zdj (sz : Nat) (es : List (List E)) : ownD (.osl false true sz es) = false := of_decide_eq_true rfl
theorem Zbk (i off : Nat) : ownD (.ptr i off) = false := of_decide_eq_true rfl
theorem Zda (f : Fn) (a b : List D) : ownD (.func f a b) = false := of_decide_eq_true rfl
theorem Zfu (i : Nat) : ownD (.map i) = false := of_decide_eq_true rfl
theorem own_asl (i o n : Nat) : ownD (.asl i o n) = false := of_decide_eq_true rfl
theorem own_rptr (cs : List E) (o : Nat) : ownD (.rptr cs o) = false := of_decide_eq_true rfl
theorem own_hdr (n : Nat) : ownD (.hdr n) = false := of_decide_eq_true rfl
theorem own_iface (t : TypeId) (d : D) : ownD (.iface t d) = false := of_decide_eq_true rfl
theorem Zbo (cs : List D) : ownD (.agg cs) = cs.any own0 := rfl
theorem Zb3 (x : E) : own0 (.e x) = false := of_decide_eq_true rfl
theorem Zds (sz : Nat) (es : List (List E)) : own0 (.osl false true sz es) = false := of_decide_eq_true rfl
theorem own0_hdr (n : Nat) : own0 (.hdr n) = false := of_decide_eq_true rfl

theorem Zaw : tks s [] = some ([], s) := rfl
theorem Zap {x : Operand} {xs : List Operand} : tks s (x :: xs) = match tk s x with
    | some (d, s1) => match tks s1 xs with
      | some (ds, s2) => some (d :: ds, s2)
      | none => none
    | none => none := rfl
theorem Ze7 : shs s [] = some ([], s) := rfl
theorem Zd9 {x : Operand} {xs : List Operand} : shs s (x :: xs) = match sh s x with
    | some (d, s1) => match shs s1 xs with
      | some (ds, s2) => some (d :: ds, s2)
      | none => none
    | none => none := rfl
theorem Zg8 : optO s none = some none := rfl
theorem Zg7 {x : Operand} : optO s (some x) = (rd s x).map some := rfl

theorem Zcv {k : IntKind} {a b : Int} : Zib .add k a b = some (.int k (k.wrap (a + b))) := rfl
theorem Zft {k : IntKind} {a b : Int} : Zib .sub k a b = some (.int k (k.wrap (a - b))) := rfl
theorem Zih {k : IntKind} {a b : Int} : Zib .mul k a b = some (.int k (k.wrap (a * b))) := rfl
theorem arith_quo {k : IntKind} {a b : Int} (h : b ≠ 0) : Zib .quo k a b = some (.int k (k.wrap (a.tdiv b))) := by simp [Zib, h]
theorem Zig {k : IntKind} {a b : Int} (h : b ≠ 0) : Zib .rem k a b = some (.int k (a.tmod b)) := by simp [Zib, h]
theorem Zhw {k : IntKind} {a b : Int} : Zib .and k a b = some (.int k (k.wrap (BitVec.ofInt k.bits a &&& BitVec.ofInt k.bits b).toNat)) := rfl
theorem arith_or {k : IntKind} {a b : Int} : Zib .or k a b = some (.int k (k.wrap (BitVec.ofInt k.bits a ||| BitVec.ofInt k.bits b).toNat)) := rfl
theorem Zif {k : IntKind} {a b : Int} : Zib .xor k a b = some (.int k (k.wrap (BitVec.ofInt k.bits a ^^^ BitVec.ofInt k.bits b).toNat)) := rfl
theorem Zay {k : IntKind} {a b : Int} : Zib .eql k a b = some (.e (.bool (a == b))) := rfl
theorem Ze0 {k : IntKind} {a b : Int} : Zib .neq k a b = some (.e (.bool (a != b))) := rfl
theorem Zbv {k : IntKind} {a b : Int} : Zib .lss k a b = some (.e (.bool (decide (a < b)))) := rfl
theorem Zeo {k : IntKind} {a b : Int} : Zib .leq k a b = some (.e (.bool (decide (a ≤ b)))) := rfl
theorem Zei {k : IntKind} {a b : Int} : Zib .gtr k a b = some (.e (.bool (decide (b < a)))) := rfl
theorem Ze1 {k : IntKind} {a b : Int} : Zib .geq k a b = some (.e (.bool (decide (b ≤ a)))) := rfl
theorem Zes {b : Bool} : unD .not (.e (.bool b)) = some (.e (.bool (!b))) := rfl
theorem unD_neg {k : IntKind} {a : Int} : unD .neg (.e (.int k a)) = some (.e (.int k (k.wrap (0 - a)))) := rfl

theorem Zdf {t : TypeId} {k : IntKind} {a b : Int} {yc : Bool} : binD P .add t (.e (.int k a)) (.e (.int k b)) yc = Zib .add k a b := by simp [binD]
theorem Zgn {t : TypeId} {k : IntKind} {a b : Int} {yc : Bool} : binD P .sub t (.e (.int k a)) (.e (.int k b)) yc = Zib .sub k a b := by simp [binD]
theorem binD_mul {t : TypeId} {k : IntKind} {a b : Int} {yc : Bool} : binD P .mul t (.e (.int k a)) (.e (.int k b)) yc = Zib .mul k a b := by simp [binD]
theorem binD_quo {t : TypeId} {k : IntKind} {a b : Int} {yc : Bool} : binD P .quo t (.e (.int k a)) (.e (.int k b)) yc = Zib .quo k a b := by simp [binD]
theorem binD_rem {t : TypeId} {k : IntKind} {a b : Int} {yc : Bool} : binD P .rem t (.e (.int k a)) (.e (.int k b)) yc = Zib .rem k a b := by simp [binD]
theorem binD_and {t : TypeId} {k : IntKind} {a b : Int} {yc : Bool} : binD P .and t (.e (.int k a)) (.e (.int k b)) yc = Zib .and k a b := by simp [binD]
theorem binD_or {t : TypeId} {k : IntKind} {a b : Int} {yc : Bool} : binD P .or t (.e (.int k a)) (.e (.int k b)) yc = Zib .or k a b := by simp [binD]
theorem binD_xor {t : TypeId} {k : IntKind} {a b : Int} {yc : Bool} : binD P .xor t (.e (.int k a)) (.e (.int k b)) yc = Zib .xor k a b := by simp [binD]
theorem Zb8 {t : TypeId} {k : IntKind} {a b : Int} {yc : Bool} : binD P .eql t (.e (.int k a)) (.e (.int k b)) yc = Zib .eql k a b := by simp [binD]
theorem Zel {t : TypeId} {k : IntKind} {a b : Int} {yc : Bool} : binD P .neq t (.e (.int k a)) (.e (.int k b)) yc = Zib .neq k a b := by simp [binD]
theorem Zc2 {t : TypeId} {k : IntKind} {a b : Int} {yc : Bool} : binD P .lss t (.e (.int k a)) (.e (.int k b)) yc = Zib .lss k a b := by simp [binD]
theorem Zfg {t : TypeId} {k : IntKind} {a b : Int} {yc : Bool} : binD P .leq t (.e (.int k a)) (.e (.int k b)) yc = Zib .leq k a b := by simp [binD]
theorem Zf6 {t : TypeId} {k : IntKind} {a b : Int} {yc : Bool} : binD P .gtr t (.e (.int k a)) (.e (.int k b)) yc = Zib .gtr k a b := by simp [binD]
theorem Zem {t : TypeId} {k : IntKind} {a b : Int} {yc : Bool} : binD P .geq t (.e (.int k a)) (.e (.int k b)) yc = Zib .geq k a b := by simp [binD]
theorem binS_add {t : TypeId} {a b : ByteArray} {yc : Bool} : binD P .add t (.e (.str a)) (.e (.str b)) yc = strD .add a b := by simp [binD]
theorem binS_eql {t : TypeId} {a b : ByteArray} {yc : Bool} : binD P .eql t (.e (.str a)) (.e (.str b)) yc = strD .eql a b := by simp [binD]
theorem binS_neq {t : TypeId} {a b : ByteArray} {yc : Bool} : binD P .neq t (.e (.str a)) (.e (.str b)) yc = strD .neq a b := by simp [binD]
theorem strD_eql {a b : ByteArray} : strD .eql a b = some (.e (.bool (a == b))) := rfl
theorem strD_neq {a b : ByteArray} : strD .neq a b = some (.e (.bool (!(a == b)))) := rfl
theorem binD_shl {t : TypeId} {k k' : IntKind} {a b : Int} {yc : Bool} : binD P .shl t (.e (.int k a)) (.e (.int k' b)) yc = shiftD .shl k a b := rfl
theorem Zh4 {t : TypeId} {k k' : IntKind} {a b : Int} {yc : Bool} : binD P .shr t (.e (.int k a)) (.e (.int k' b)) yc = shiftD .shr k a b := rfl
theorem Zhi {k : IntKind} {a b : Int} (h : ¬ b < 0) : shiftD .shl k a b = some (.e (.int k (k.wrap (a * 2 ^ (min b.toNat k.bits))))) := by simp [shiftD, h]
theorem Zfj {k : IntKind} {a b : Int} (h : ¬ b < 0) : shiftD .shr k a b = some (.e (.int k (a.fdiv (2 ^ (min b.toNat k.bits))))) := by simp [shiftD, h]
theorem Zfh {t : TypeId} {a b : Bool} {yc : Bool} (h : P.underlying t = some .bool) : binD P .eql t (.e (.bool a)) (.e (.bool b)) yc = some (.e (.bool (a == b))) := by simp [binD, eqT, h, eqB]
theorem binB_neq {t : TypeId} {a b : Bool} {yc : Bool} (h : P.underlying t = some .bool) : binD P .neq t (.e (.bool a)) (.e (.bool b)) yc = some (.e (.bool (!(a == b)))) := by simp [binD, eqT, h, eqB]

theorem Zd0 {ats : Array TypeId} {x : Operand} : Zfs P .len ats [x] s = match rd s x, ats[0]? with
    | some d, some t => (len0 P t d s.h).map fun n => (.val (.int .i64 n), s)
    | _, _ => none := rfl
theorem Zdi {ats : Array TypeId} {x y : Operand} : Zfs P .append ats [x, y] s = match tk s x, ats[0]?, ats[1]? with
    | some (d, s1), some t, some ty =>
      match (match P.underlying ty with | some .string => some true | some (.slice _) => some false | _ => none) with
      | some str => match sh s1 y with
        | some (v, s2) => (Zfi P t d v str).map fun r => (.val r, s2)
        | none => none
      | none => none
    | _, _, _ => none := rfl
theorem exB_min {ats : Array TypeId} {x y : Operand} : Zfs P .min ats [x, y] s = match rd s x, rd s y with
    | some a, some b => (min2 a b).map fun r => (.val r, s)
    | _, _ => none := rfl
theorem exB_max {ats : Array TypeId} {x y : Operand} : Zfs P .max ats [x, y] s = match rd s x, rd s y with
    | some a, some b => (max2 a b).map fun r => (.val r, s)
    | _, _ => none := rfl

theorem Zcr : tupD [] = Zav := rfl
theorem Zat {d : D} : tupD [d] = d := rfl
theorem Zd6 {a b : D} : tupD [a, b] = .tup [a, b] := rfl
theorem Zea {a b c : D} : tupD [a, b, c] = .tup [a, b, c] := rfl

theorem Zaa : resD P s [] = some ([], s) := rfl
theorem Zah {t : Tmp} {rs : List ResultVar} : resD P s (.tmp t :: rs) = match tk s (.tmp t) with
    | some (d, s1) => match resD P s1 rs with
      | some (ds, s2) => some (d :: ds, s2)
      | none => none
    | none => none := rfl
theorem Zdy {a : Tmp} {t : TypeId} {rs : List ResultVar} : resD P s (.cell a t :: rs) = match adOf (s.t.getD a Zav) with
    | some ad => match loadD P s t ad true with
      | some (d, s1) => match resD P s1 rs with
        | some (ds, s2) => some (d :: ds, s2)
        | none => none
      | none => none
    | none => none := rfl
theorem Zab {fn : Func} {h0 : List O} {t : List D} {h : List O} : leave P fn h0 none t h = match resD P { t := t, d := [], r := .no, h := h } fn.results.toList with
    | some (ds, s2) => some (.val (tupD ds), gc h0.length h0 s2.h (tupD ds))
    | none => none := rfl

variable {fn : Func} {h h' : List O} {tl : List D}
theorem Zbm {n : Nat} {x : E} : Fit n (.e x) = True := eq_true (.e x)
theorem Zcx {n : Nat} {ex fu : Bool} {sz : Nat} {es : List (List E)} : Fit n (.osl ex fu sz es) = True := eq_true (.osl ex fu sz es)
theorem fit_hdr {n k : Nat} : Fit n (.hdr k) = True := eq_true (.hdr k)
theorem Zcw {n : Nat} {cs : List D} : Fit n (.tup cs) = ∀ d ∈ cs, Fit n d := propext ⟨fun h => by cases h with | tup _ h => exact h, fun h => .tup cs h⟩
theorem Zg6 {n : Nat} {cs : List D} : Fit n (.agg cs) = ∀ d ∈ cs, Fit n d := propext ⟨fun h => by cases h with | agg _ h => exact h, fun h => .agg cs h⟩

/-! ### memory -/
theorem Zas {h : List O} {a : O} {l : List O} : Zbp (h ++ a :: l) h.length = Zbp (a :: l) 0 := by simp [Zbp]
theorem Zbh {h l : List O} {j : Nat} : Zbp (h ++ l) (h.length + j) = Zbp l j := by simp [Zbp, List.getElem?_append_right]
theorem Zbg {cs : List D} {l : List O} : Zbp (.cells cs :: l) 0 = some cs := rfl
theorem Zcz {o : O} {l : List O} {j : Nat} : Zbp (o :: l) (j + 1) = Zbp l j := by simp [Zbp]
theorem Zeu {h l : List O} {a o : O} : (h ++ a :: l).set h.length o = h ++ o :: l := by simp
theorem Ze4 {h l : List O} {j : Nat} {o : O} : (h ++ l).set (h.length + j) o = h ++ l.set j o := by rw [List.set_append_right _ _ (by omega)]; simp
theorem hlen {h l : List O} : (h ++ l).length = h.length + l.length := List.length_append
theorem Zi9 {h l : List O} {o : O} : (h ++ l) ++ [o] = h ++ (l ++ [o]) := List.append_assoc _ _ _
theorem hget0 {h : List O} {a : O} {l : List O} : (h ++ a :: l)[h.length]? = some a := by simp
theorem hgetn {h l : List O} {j : Nat} : (h ++ l)[h.length + j]? = l[j]? := by simp [List.getElem?_append_right]
theorem Zad {i o : Nat} : adOf (.ptr i o) = some (.ob i o) := rfl
theorem Zdh {cs : List E} {o : Nat} : adOf (.rptr cs o) = some (.ro cs o) := rfl
theorem Zb6 {i o : Nat} : adD (.ob i o) = .ptr i o := rfl
theorem adD_ro {cs : List E} {o : Nat} : adD (.ro cs o) = .rptr cs o := rfl
theorem Zb5 {i o n : Nat} : (Ad.ob i o).add n = .ob i (o + n) := rfl
theorem add_ro {cs : List E} {o n : Nat} : (Ad.ro cs o).add n = .ro cs (o + n) := rfl
theorem Zb4 {cs : List D} {off : Nat} {new : List D} : Zeq cs off new = cs.take off ++ new ++ cs.drop (off + new.length) := rfl
theorem Zb1 {cs : List D} : cellsOf (.agg cs) = cs := rfl
theorem Zc9 {x : E} : cellsOf (.e x) = [.e x] := rfl
theorem Zd3 {ex fu : Bool} {sz : Nat} {es : List (List E)} : cellsOf (.osl ex fu sz es) = [.osl ex fu sz es] := rfl
theorem Zhf {i o : Nat} : cellsOf (.ptr i o) = [.ptr i o] := rfl
theorem Zir {i : Nat} : cellsOf (.map i) = [.map i] := rfl
theorem Zhv {f : Fn} {a b : List D} : cellsOf (.func f a b) = [.func f a b] := rfl
theorem Zb9 {cs : List D} : notTup (.agg cs) = true := of_decide_eq_true rfl
theorem Zco {x : E} : notTup (.e x) = true := of_decide_eq_true rfl
theorem Zcm {ex fu : Bool} {sz : Nat} {es : List (List E)} : notTup (.osl ex fu sz es) = true := of_decide_eq_true rfl
theorem Zhy {i o : Nat} : notTup (.ptr i o) = true := of_decide_eq_true rfl
theorem notTup_map {i : Nat} : notTup (.map i) = true := of_decide_eq_true rfl
theorem Zil {f : Fn} {a b : List D} : notTup (.func f a b) = true := of_decide_eq_true rfl

/-- What a load reads, of what nobody owns. -/
theorem Zbs {tl : List D} {df : List (FuncId × List D)} {r : Rc} {H : List O} {t : TypeId} {i off : Nat} {b : Bool} : loadD P ⟨tl, df, r, H⟩ t (.ob i off) b =
    match szOf P t, aggT P t with
    | some n, some ag => match Zbp H i with
      | some cs => if off + n ≤ cs.length then
          match ag with
          | true => if ((cs.drop off).take n).any own0 then
                some (.agg (if b then (cs.drop off).take n else ((cs.drop off).take n).map shr0), ⟨tl, df, r, H.set i (.cells (Zeq cs off (((cs.drop off).take n).map (if b then Zgq else kep0))))⟩)
              else some (.agg ((cs.drop off).take n), ⟨tl, df, r, H⟩)
          | false => match cs[off]? with
            | some d => if own0 d then some (if b then d else shr0 d, ⟨tl, df, r, H.set i (.cells (Zeq cs off [if b then Zgq d else kep0 d]))⟩) else some (d, ⟨tl, df, r, H⟩)
            | none => none
        else none
      | none => none
    | _, _ => none := by
  simp only [loadD]
  cases szOf P t with
  | none => rfl
  | some n =>
    cases aggT P t with
    | none => rfl
    | some ag => rfl
theorem Zim {s : St} {t : TypeId} {cs : List E} {off : Nat} {b : Bool} : loadD P s t (.ro cs off) b =
    match szOf P t, aggT P t with
    | some n, some ag => if off + n ≤ cs.length then
        match ag with
        | true => some (.agg (((cs.drop off).take n).map .e), s)
        | false => match cs[off]? with
          | some x => some (.e x, s)
          | none => none
      else none
    | _, _ => none := by
  simp only [loadD]
  cases szOf P t with
  | none => rfl
  | some n =>
    cases aggT P t with
    | none => rfl
    | some ag => rfl
theorem Zcq {tl : List D} {df : List (FuncId × List D)} {r : Rc} {H : List O} {t : TypeId} {i off : Nat} {d : D} : storeD P ⟨tl, df, r, H⟩ t (.ob i off) d =
    match szOf P t with
    | some n => if (cellsOf d).length = n ∧ notTup d = true then
        match Zbp H i with
        | some cs => if off + n ≤ cs.length then some ⟨tl, df, r, H.set i (.cells (Zeq cs off (cellsOf d)))⟩ else none
        | none => none
      else none
    | none => none := rfl

/-! ### slices of which nothing is anybody's own -/
theorem len0_of {t e : TypeId} {x : D} {es : List (List E)} {h : List O} (hu : P.underlying t = some (.slice e)) (hs : slOf x = some es) : len0 P t x h = some es.length := by
  unfold len0
  rw [hu]
  cases x with
  | e v => cases v <;> simp_all [slOf]
  | osl => simp_all [slOf]
  | _ => simp [slOf] at hs
theorem Zh0 {t : TypeId} {b : ByteArray} {h : List O} (hu : P.underlying t = some .string) : len0 P t (.e (.str b)) h = some b.size := by unfold len0; rw [hu]
theorem len0_asl {t e : TypeId} {i o n : Nat} {h : List O} (hu : P.underlying t = some (.slice e)) : len0 P t (.asl i o n) h = some n := by unfold len0; rw [hu]
theorem len0_hdr {t e : TypeId} {n : Nat} {h : List O} (hu : P.underlying t = some (.slice e)) : len0 P t (.hdr n) h = some n := by unfold len0; rw [hu]
theorem slOf_e {es : List (List E)} : slOf (.e (.sl es)) = some es := rfl
theorem Zg0 {ex fu : Bool} {sz : Nat} {es : List (List E)} : slOf (.osl ex fu sz es) = some es := rfl

/-- A slice that is there to read: nobody's own; with these rows. -/
structure Rd (d : D) (es : List (List E)) : Prop where
  own : own0 d = false
  sl : slOf d = some es
theorem Rd.ownD {d : D} {es : List (List E)} (h : Rd d es) : ownD d = false := by
  have h1 := h.own; have h2 := h.sl
  cases d <;> simp_all [Abs.ownD, ownA, slOf]
theorem Rd.e {es : List (List E)} : Rd (.e (.sl es)) es := ⟨rfl, rfl⟩
theorem Rd.osl {sz : Nat} {es : List (List E)} : Rd (.osl false true sz es) es := ⟨rfl, rfl⟩
theorem Rd.fit {d : D} {es : List (List E)} (h : Rd d es) (n : Nat) : Fit n d := by
  have h2 := h.sl
  cases d with
  | e x => exact .e x
  | osl => exact .osl _ _ _ _
  | _ => simp [slOf] at h2
theorem Rd.cells {d : D} {es : List (List E)} (h : Rd d es) : cellsOf d = [d] := by
  have h2 := h.sl
  cases d <;> simp_all [slOf, cellsOf]
theorem Rd.notTup {d : D} {es : List (List E)} (h : Rd d es) : notTup d = true := by
  have h2 := h.sl
  cases d <;> simp_all [slOf, Abs.notTup]

theorem ix_of {t e : TypeId} {x : D} {es : List (List E)} {k : IntKind} {i : Int} {sz : Nat} {r : List E} (hu : P.underlying t = some (.slice e)) (hz : szOf P e = some sz) (hs : slOf x = some es) (h0 : 0 ≤ i) (hr : es[i.toNat]? = some r) (hl : r.length = sz) (hp : 0 < sz) :
    Zdr P t x (.e (.int k i)) = some (.rptr r 0) := by
  unfold Zdr
  rw [hu]
  simp only [hz]
  cases x with
  | e v => simp only [hs, hr]; simp [h0, hl, hp]
  | osl ex fu sz' es' => simp only [hs, hr]; simp [h0, hl, hp]
  | _ => simp [slOf] at hs

/-! ### slots of which only some are told -/
def mkT : List (Option D) → List D → Nat → List D
  | [], _, _ => []
  | some d :: p, ys, i => d :: mkT p ys (i + 1)
  | none :: p, ys, i => ys.getD i Zav :: mkT p ys (i + 1)
theorem Zd7 {pat : List (Option D)} {H : List O} {df : List (FuncId × List D)} {r : Rc} {s : St} (h1 : s.d = df) (h2 : s.r = r) (h3 : s.h = H) (h4 : mkT pat s.t 0 = s.t) : ∃ ys, s = ⟨mkT pat ys 0, df, r, H⟩ :=
  ⟨s.t, by rw [h4]; cases s; simp_all⟩

/-! ### regions whose order is open -/
section
variable {pr : FuncId → List D → Option D} {cv : FuncId → Nat → List Cv} {β : Type} {k : X × St → Option β} {all : Array Oper} {hs : List (Nat × List O)} {ag : List Again} {rest : List Todo} {i bf : Nat} {nm mv : List Tmp}

/-- Of one that changes its slot alone. -/
noncomputable def kdV (P : Program) (pr : FuncId → List D → Option D) (cv : FuncId → Nat → List Cv) (all : Array Oper) (rest : List Todo) (hs : List (Nat × List O)) (ag : List Again) (dst : Option Tmp) (s : St) (k : X × St → Option β) (v : Option D) : Option β :=
  match v with
  | some d => kd P pr cv all rest hs ag (s.put dst d) k
  | none => none
theorem Zc4 {dst : Tmp} {d : D} {tl : List D} {df : List (FuncId × List D)} {r : Rc} {h : List O} : kdV P pr cv all rest hs ag (some dst) ⟨tl, df, r, h⟩ k (some d) = kd P pr cv all rest hs ag ⟨tl.set dst d, df, r, h⟩ k := rfl
noncomputable def kdL (P : Program) (pr : FuncId → List D → Option D) (cv : FuncId → Nat → List Cv) (all : Array Oper) (rest : List Todo) (hs : List (Nat × List O)) (ag : List Again) (s : St) (k : X × St → Option β) (o : Option Oper) : Option β :=
  match o with
  | some o => if want all o s then kdV P pr cv all rest hs ag o.dst s k (Zdp P o s) else kd P pr cv all rest hs ag (s.put o.dst Zav) k
  | none => none
theorem kd_l : kd P pr cv all (⟨i, false, false, bf, nm, mv⟩ :: rest) hs ag s k = kdL P pr cv all rest hs ag s k all[i]? := by
  cases ho : all[i]? with
  | none => unfold kd; rw [Zge]; simp [ho, kdL]
  | some o =>
    cases hw : want all o s with
    | false => rw [kd_skip ho hw]; simp [kdL, hw]
    | true =>
      cases hx : Zdp P o s with
      | none => unfold kd; rw [Zge]; simp [ho, hw, hx, kdL, kdV]
      | some d => rw [kd_light ho hw hx]; simp [kdL, hw, kdV, hx]
theorem Zc5 {dst : Option Tmp} {op : Op} {ty : TypeId} {pos : String} {af : Array Edge} : kdL P pr cv all rest hs ag s k (some ⟨dst, op, ty, pos, af, none⟩) = kdV P pr cv all rest hs ag dst s k (Zdp P ⟨dst, op, ty, pos, af, none⟩ s) := by simp [kdL, want]
noncomputable def kdR (P : Program) (pr : FuncId → List D → Option D) (cv : FuncId → Nat → List Cv) (all : Array Oper) (i bf : Nat) (rest : List Todo) (hs : List (Nat × List O)) (ag : List Again) (o : Oper) (s : St) (k : X × St → Option β) (v : Option D) : Option β :=
  match v with
  | some d => open Classical in if Ziz P o bf s.t d hs then kd P pr cv all rest hs ({ i := i, o := o, t := s.t, d := d } :: ag) (s.put o.dst d) k else none
  | none => none
noncomputable def kdRO (P : Program) (pr : FuncId → List D → Option D) (cv : FuncId → Nat → List Cv) (all : Array Oper) (i bf : Nat) (rest : List Todo) (hs : List (Nat × List O)) (ag : List Again) (s : St) (k : X × St → Option β) (o : Option Oper) : Option β :=
  match o with
  | some o => if want all o s then kdR P pr cv all i bf rest hs ag o s k (Zdp P o s) else kd P pr cv all rest hs ag (s.put o.dst Zav) k
  | none => none
theorem kd_r : kd P pr cv all (⟨i, false, true, bf, nm, mv⟩ :: rest) hs ag s k = kdRO P pr cv all i bf rest hs ag s k all[i]? := by
  cases ho : all[i]? with
  | none => unfold kd; rw [Zge]; simp [ho, kdRO]
  | some o =>
    cases hw : want all o s with
    | false => rw [kd_skip ho hw]; simp [kdRO, hw]
    | true =>
      simp only [kdRO, hw, if_true]
      cases hx : Zdp P o s with
      | none => unfold kd; rw [Zge]; simp [ho, hw, hx, kdR]
      | some d =>
        by_cases hb : Ziz P o bf s.t d hs
        · rw [kd_read ho hw hx hb]; simp [kdR, hb]
        · unfold kd; rw [Zge]; simp [ho, hw, hx, kdR, hb]
theorem Zcf {dst : Option Tmp} {op : Op} {ty : TypeId} {pos : String} {af : Array Edge} : kdRO P pr cv all i bf rest hs ag s k (some ⟨dst, op, ty, pos, af, none⟩) = kdR P pr cv all i bf rest hs ag ⟨dst, op, ty, pos, af, none⟩ s k (Zdp P ⟨dst, op, ty, pos, af, none⟩ s) := by simp [kdRO, want]
theorem Zee {o : Oper} {d : D} {dst : Tmp} {tl : List D} {df : List (FuncId × List D)} {r : Rc} {h : List O} (hd : o.dst = some dst) : kdR P pr cv all i bf rest [] ag o ⟨tl, df, r, h⟩ k (some d) = kd P pr cv all rest [] ({ i := i, o := o, t := tl, d := d } :: ag) ⟨tl.set dst d, df, r, h⟩ k := by
  simp [kdR, Ziz, St.put, hd]
end

/-- What is sealed ahead. -/
def sealD (d : D) : D := match d with | .tup vs => .tup vs | d => kep d
theorem Zch {d : D} (h : ownD d = false) : sealD d = d := by
  unfold sealD
  split
  · rfl
  · rename_i hn
    exact (kep_same h (by cases d <;> simp_all [notTup])).1
theorem Zbn : Zgz [] s = s := rfl
theorem Zc6 {dst : Option Tmp} {t : Tmp} {ty : TypeId} {pos : String} {af : Array Edge} {g : Option (Nat × Bool)} {l : List Oper} {tl : List D} {df : List (FuncId × List D)} {r : Rc} {h : List O} :
    Zgz (⟨dst, .move (.tmp t), ty, pos, af, g⟩ :: l) ⟨tl, df, r, h⟩ = Zgz l ⟨tl.set t (sealD (tl.getD t Zav)), df, r, h⟩ := by
  simp only [Zgz, List.foldl_cons]
  congr 1
  generalize hv : tl.getD t Zav = v
  cases v with
  | tup vs =>
    have := set_getD_sameD tl t
    rw [hv] at this
    simp only [sealD, this]
  | _ => rfl
theorem Zba {dst : Option Tmp} {op : Op} {ty : TypeId} {pos : String} {af : Array Edge} {g : Option (Nat × Bool)} {l : List Oper} (h : ∀ t, op ≠ .move (.tmp t)) : Zgz (⟨dst, op, ty, pos, af, g⟩ :: l) s = Zgz l s := by
  cases op with
  | move x =>
    cases x with
    | tmp t => exact absurd rfl (h t)
    | _ => rfl
  | _ => rfl

/-! light ones -/
theorem Zdg {dst : Option Tmp} {t : Tmp} {ty : TypeId} {pos : String} {af : Array Edge} {g : Option (Nat × Bool)} {tl : List D} {df : List (FuncId × List D)} {r : Rc} {h : List O} (ho : ownD (tl.getD t Zav) = false) :
    Zdp P ⟨dst, .move (.tmp t), ty, pos, af, g⟩ ⟨tl, df, r, h⟩ = some (tl.getD t Zav) := by
  have hs : sh ⟨tl, df, r, h⟩ (.tmp t) = some (tl.getD t Zav, ⟨tl, df, r, h⟩) := Zaf ho
  have key : cpD (tl.getD t Zav) = some (tl.getD t Zav) := by
    generalize tl.getD t Zav = v at ho
    unfold cpD
    have he : excD v = false := by
      cases v with
      | osl ex fu sz es => simp [Abs.ownD, ownA, own0] at ho; simp [excD, exc0, ho.1]
      | agg cs =>
        simp only [Abs.ownD, ownA, List.any_eq_false] at ho
        simp only [excD, List.any_eq_false]
        intro x hx
        have := ho x hx
        cases x <;> simp_all [own0, exc0]
      | tup vs => simpa [excD] using ho
      | _ => rfl
    rw [he]
    simp only [Bool.false_eq_true, if_false]
    split
    · rfl
    · rename_i hn
      rw [shr_plain ho (by cases v <;> simp_all [notTup])]
  exact key
theorem exL_const {dst : Option Tmp} {v : Value} {ty : TypeId} {pos : String} {af : Array Edge} {g : Option (Nat × Bool)} : Zdp P ⟨dst, .move (.const v), ty, pos, af, g⟩ s = ofV v := rfl
def exLoad (P : Program) (s : St) (t : TypeId) (ad : Ad) : Option D :=
  match ad, szOf P t, aggT P t with
      | .ro _ _, _, _ => (loadD P s t ad false).map (·.1)
      | .ob i off, some n, some ag => match Zbp s.h i with
        | some cs => if off + n ≤ cs.length then
            match ag with
            | true => let ds := (cs.drop off).take n; if ds.any exc0 then none else some (.agg (ds.map shr0))
            | false => match cs[off]? with
              | some d => if exc0 d then none else some (shr0 d)
              | none => none
          else none
        | none => none
      | _, _, _ => none
theorem Zci {dst : Option Tmp} {t : TypeId} {a : Operand} {ty : TypeId} {pos : String} {af : Array Edge} {g : Option (Nat × Bool)} :
    Zdp P ⟨dst, .load t a, ty, pos, af, g⟩ s = match (rd s a).bind adOf with
      | some ad => exLoad P s t ad
      | none => none := rfl
theorem exLd_ro {t : TypeId} {cs : List E} {off : Nat} : exLoad P s t (.ro cs off) = (loadD P s t (.ro cs off) false).map (·.1) := by
  unfold exLoad
  cases szOf P t <;> cases aggT P t <;> rfl
theorem Zde {tl : List D} {df : List (FuncId × List D)} {r : Rc} {H : List O} {t : TypeId} {i off : Nat} : exLoad P ⟨tl, df, r, H⟩ t (.ob i off) = match szOf P t, aggT P t with
      | some n, some ag => match Zbp H i with
        | some cs => if off + n ≤ cs.length then
            match ag with
            | true => if ((cs.drop off).take n).any exc0 then none else some (.agg (((cs.drop off).take n).map shr0))
            | false => match cs[off]? with
              | some d => if exc0 d then none else some (shr0 d)
              | none => none
          else none
        | none => none
      | _, _ => none := by
  unfold exLoad
  cases szOf P t with
  | none => rfl
  | some n =>
    cases aggT P t with
    | none => rfl
    | some ag => rfl
theorem Zg3 {x : E} : exc0 (.e x) = false := of_decide_eq_true rfl
theorem Zj5 {fu : Bool} {sz : Nat} {es : List (List E)} : exc0 (.osl false fu sz es) = false := of_decide_eq_true rfl
theorem Zfp {x : E} : shr0 (.e x) = .e x := rfl
theorem Ziy {ex : Bool} {sz : Nat} {es : List (List E)} : shr0 (.osl ex true sz es) = .osl false true sz es := rfl
theorem Zfx {ex : Bool} {sz : Nat} {es : List (List E)} : shr0 (.osl ex false sz es) = .e (.sl es) := rfl
theorem Rd.exc {d : D} {es : List (List E)} (h : Rd d es) : exc0 d = false := by
  have h1 := h.own
  cases d <;> simp_all [own0, exc0]
theorem Rd.shr {d : D} {es : List (List E)} (h : Rd d es) : shr0 d = d := by
  have h1 := h.own
  cases d <;> simp_all [own0, shr0]
def Zgb : Op → Bool
  | .pick _ _ _ => true
  | .build _ _ => true
  | .buildSlice _ _ _ => true
  | .nilCheck _ => true
  | .binOp _ _ _ _ _ => true
  | .unOp _ _ _ => true
  | .convert _ _ _ => true
  | .makeInterface _ _ => true
  | .makeFunc _ _ _ => true
  | .makeSlice _ _ _ => true
  | .slice _ _ _ _ _ => true
  | .fieldAddr _ _ _ => true
  | .field _ _ _ => true
  | .indexAddr _ _ _ => true
  | .index _ _ _ => true
  | .lookup _ _ _ _ => true
  | .typeAssert _ _ _ _ => true
  | .call c => match c.callee with
    | .builtin .len => true
    | _ => false
  | _ => false
theorem Zhc {a b c : Operand} : Zgb (.pick a b c) = true := of_decide_eq_true rfl
theorem lo_build {t : TypeId} {ps : Array (Nat × Operand)} : Zgb (.build t ps) = true := of_decide_eq_true rfl
theorem Zga {t : TypeId} {n : Nat} {ps : Array (Nat × Operand)} : Zgb (.buildSlice t n ps) = true := of_decide_eq_true rfl
theorem Zdx {x : Operand} : Zgb (.nilCheck x) = true := of_decide_eq_true rfl
theorem Zg1 {op : BinOp} {t y : TypeId} {a b : Operand} : Zgb (.binOp op t a b y) = true := of_decide_eq_true rfl
theorem lo_unOp {op : UnOp} {t : TypeId} {a : Operand} : Zgb (.unOp op t a) = true := of_decide_eq_true rfl
theorem Zhj {t u : TypeId} {a : Operand} : Zgb (.convert t u a) = true := of_decide_eq_true rfl
theorem Zg5 {t : TypeId} {a : Operand} : Zgb (.makeInterface t a) = true := of_decide_eq_true rfl
theorem Zin {f : Fn} {a b : Array Operand} : Zgb (.makeFunc f a b) = true := of_decide_eq_true rfl
theorem lo_slice {t : TypeId} {x : Operand} {a b c : Option Operand} : Zgb (.slice t x a b c) = true := of_decide_eq_true rfl
theorem Zbu {t : TypeId} {x : Operand} {f : Nat} : Zgb (.fieldAddr t x f) = true := of_decide_eq_true rfl
theorem lo_field {t : TypeId} {x : Operand} {f : Nat} : Zgb (.field t x f) = true := of_decide_eq_true rfl
theorem Zfl {t : TypeId} {x y : Operand} : Zgb (.indexAddr t x y) = true := of_decide_eq_true rfl
theorem lo_index {t : TypeId} {x y : Operand} : Zgb (.index t x y) = true := of_decide_eq_true rfl
theorem Zeb {t : TypeId} {x y : Operand} {b : Bool} : Zgb (.lookup t x y b) = true := of_decide_eq_true rfl
theorem lo_len {ats : Array TypeId} {args : Array Operand} : Zgb (.call { callee := .builtin .len, args := args, argTypes := ats }) = true := of_decide_eq_true rfl
theorem Zgy {x : Operand} {a b : TypeId} {c : Bool} : Zgb (.typeAssert x a b c) = true := of_decide_eq_true rfl
def outV (r : Option (Out × St)) : Option D :=
  match r with
  | some (.val d, _) => some d
  | _ => none
theorem Zbx {d : D} : outV (some (.val d, s)) = some d := rfl
theorem exL_gen' {o : Oper} (h : Zgb o.op = true) (ho : o.op.operands.toList.any (ownOp s) = false) : Zdp P o s = outV (exOp P [] o s) := by
  have hh : heavy o.op = false := by
    cases hop : o.op <;> simp_all [Zgb, heavy]
    rename_i c
    cases hc : c.callee <;> simp_all []
    rename_i b; cases b <;> simp_all
  unfold Zdp
  split
  · rename_i t hop; simp [hop, Zgb] at h
  · rename_i t a hop; simp [hop, Zgb] at h
  · rename_i x _ hop; simp [hop, Zgb] at h
  · rename_i x i hop; simp [hop, Zgb] at h
  · rw [hh, ho]
    simp only [Bool.false_eq_true, if_false]
    unfold outV
    rfl
theorem Zcs {dst : Option Tmp} {op : Op} {ty : TypeId} {pos : String} {af : Array Edge} {g : Option (Nat × Bool)} (h : Zgb op = true) (ho : op.operands.toList.any (ownOp s) = false) :
    Zdp P ⟨dst, op, ty, pos, af, g⟩ s = outV (exOp P [] ⟨dst, op, ty, pos, af, g⟩ s) := exL_gen' h ho
theorem Zbw {tl : List D} {df : List (FuncId × List D)} {r : Rc} {h : List O} {t : Tmp} : ownOp ⟨tl, df, r, h⟩ (.tmp t) = ownD (tl.getD t Zav) := rfl
theorem Zdc {v : Value} : ownOp s (.const v) = false := rfl
theorem ownOp_func {f : FuncId} : ownOp s (.func f) = false := rfl

end Go.Abs
