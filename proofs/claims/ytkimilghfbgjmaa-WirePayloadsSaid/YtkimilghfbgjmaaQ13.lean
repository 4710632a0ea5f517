/-
  WHAT THE EVALUATOR SAYS IS SO: all pieces together. The condition: what is said of the given functions (pr). RUNNING THE EVALUATOR ON CODE THAT IS GIVEN, step by step, what comes behind as a function. No condition.
-/
import Derived.Test.YtkimilghfbgjmaaQ12

open Option renaming bind_eq_bind → Yah, bind_eq_some_iff → Yai
namespace Go.Abs
section
variable {P : Program} {pr : FuncId → List D → Option D} {cv : FuncId → Nat → List Cv}
theorem sound (hmix : P.follows .mixedOrders = true) (hpr : ∀ f args d h, pr f args = some d → MC P (.fn f) args h (.val d, h)) :
    (∀ fn c s r, exec P pr cv fn c s = some r → ME P fn c s r) ∧ (∀ g args h r, call P pr cv g args h = some r → MC P g args h r) ∧ (∀ l u h r, undo P pr cv l u h = some r → MU P l u h r) ∧
    (∀ fn body c s r, Zt3 P pr cv fn body c s = some r → MI P fn body c s r) ∧ (∀ all l hs ag s r, Zgu P pr cv all l hs ag s = some r → Tr P all l hs ag s r) ∧
    (∀ all l s r, Zqk P pr cv all l s = some r → MO P all l s r) := by
  refine exec.mutual_partial_correctness P pr cv (fun fn c s r => ME P fn c s r) (fun g args h r => MC P g args h r) (fun l u h r => MU P l u h r) (fun fn body c s r => MI P fn body c s r)
    (fun all l hs ag s r => Tr P all l hs ag s r) (fun all l s r => MO P all l s r) ?_ ?_ ?_ ?_ ?_ ?_
  · -- code
    intro exec call Zt3 Zgu Zqk h1 h2 h4 h5 h6 fn c s r hx
    cases c with
    | skip => cases hx; exact me_skip
    | label l => cases hx; exact me_label
    | region id ops draw =>
      cases draw with
      | false => exact ME.ghost (by simp) (fun h => Zsf _ h) (me_region (h6 _ _ _ _ hx))
      | true =>
        simp only at hx
        split at hx
        · rename_i l hl
          exact ME.ghost (by simp) (fun h => Zsf _ h) (me_draw hmix hl (h5 _ _ _ _ _ _ hx))
        · simp at hx
    | seq a b =>
      simp only [Yah, Yai] at hx
      obtain ⟨r1, hr, hx⟩ := hx
      split at hx
      · rename_i hn
        exact me_seq (h1 _ _ _ _ hr) (.inl ⟨hn, h1 _ _ _ _ hx⟩)
      · rename_i hn
        refine me_seq (h1 _ _ _ _ hr) (.inr ⟨hn, ?_⟩)
        cases hx; rfl
    | cond c a b =>
      simp only at hx
      split at hx
      · rename_i t hc
        refine me_cond hc ?_
        cases t
        · exact h1 _ _ _ _ hx
        · exact h1 _ _ _ _ hx
      · simp at hx
    | block id c =>
      simp only [Yah, Yai] at hx
      obtain ⟨r1, hr, hx⟩ := hx
      split at hx
      · rename_i i hi
        split at hx
        · rename_i he
          subst he
          cases hx
          exact Zvn (h1 _ _ _ _ hr) (.inl ⟨hi, rfl⟩)
        · rename_i he
          cases hx
          refine Zvn (h1 _ _ _ _ hr) (.inr ⟨by rw [hi]; simpa using he, ?_⟩)
          rw [← hi]
      · rename_i hn
        cases hx
        exact Zvn (h1 _ _ _ _ hr) (.inr ⟨fun e => hn id e, rfl⟩)
    | loop c =>
      simp only [Yah, Yai] at hx
      obtain ⟨r1, hr, hx⟩ := hx
      split at hx
      · rename_i hn
        exact me_loop (h1 _ _ _ _ hr) (.inl ⟨hn, h1 _ _ _ _ hx⟩)
      · rename_i hn
        refine me_loop (h1 _ _ _ _ hr) (.inr ⟨hn, ?_⟩)
        cases hx; rfl
    | scope c => exact me_scope (h4 _ _ _ _ _ hx)
    | rangeFunc f ps asg body =>
      simp only at hx
      split at hx
      · rename_i g first cap hf
        split at hf
        · rename_i hk
          split at hx
          · rename_i hno
            simp only [Yah, Yai] at hx
            obtain ⟨rc, hr, hx⟩ := hx
            exact Zx2 hk hf hno (h2 _ _ _ _ hr) hx
          · simp at hx
        · simp at hf
      · simp at hx
    | exit id => cases hx; exact me_exit
    | goto l => cases hx; exact me_goto
    | ret => cases hx; exact me_ret
    | refuse why => simp at hx
  · -- calls
    intro exec undo h1 h3 g args h r hx
    cases g with
    | fn f =>
      simp only at hx
      split at hx
      · rename_i d hd
        cases hx
        exact hpr f args d h hd
      · split at hx
        · rename_i fn hf
          split at hx
          · rename_i c hb
            simp only [Yah, Yai] at hx
            obtain ⟨r1, hr, hx⟩ := hx
            split at hx
            · rename_i u hu
              simp only [Yai] at hx
              obtain ⟨q, hq, hx⟩ := hx
              exact mc_fn hf hb (h1 _ _ _ _ hr) hu (h3 _ _ _ _ hq) hx
            · simp at hx
          · simp at hx
        · simp at hx
    | dfn f u =>
      simp only at hx
      split at hx
      · rename_i fn hf
        split at hx
        · rename_i c hb
          split at hx
          · rename_i hres
            simp only [Yah, Yai] at hx
            obtain ⟨r1, hr, hx⟩ := hx
            refine mc_dfn hf hb hres (h1 _ _ _ _ ?_) hx
            rw [← hr]
            cases u <;> rfl
          · simp at hx
        · simp at hx
      · simp at hx
    | round l =>
      simp only at hx
      split at hx
      · rename_i st pd fn env ps asg body hfl
        split at hx
        · rename_i hps
          simp only [Yah, Yai] at hx
          obtain ⟨r1, hr, hx⟩ := hx
          split at hx
          · rename_i h2 hX hb
            simp only [Yai] at hx
            obtain ⟨q, hq, hx⟩ := hx
            exact mc_round hfl hps (h1 _ _ _ _ hr) hX hb (h1 _ _ _ _ hq) hx
          · simp at hx
        · simp at hx
      · simp at hx
  · -- deferred calls
    intro call undo h2 h3 l u h r hx
    cases l with
    | nil => cases hx; exact mu_nil
    | cons x ds =>
      obtain ⟨g, args⟩ := x
      simp only [Yah, Yai] at hx
      obtain ⟨rc, hr, hx⟩ := hx
      split at hx
      · rename_i d hv
        exact mu_cons (h2 _ _ _ _ hr) (.inl ⟨⟨d, hv⟩, rfl⟩) (h3 _ _ _ _ hx)
      · rename_i d hv
        exact mu_cons (h2 _ _ _ _ hr) (.inr ⟨⟨d, hv⟩, rfl⟩) (h3 _ _ _ _ hx)
      · simp at hx
  · -- scopes
    intro exec Zt3 h1 h4 fn body c s r hx
    simp only [Yah, Yai] at hx
    obtain ⟨r1, hr, hx⟩ := hx
    split at hx
    · rename_i l hl
      split at hx
      · rename_i rest hf
        exact mi_in (h1 _ _ _ _ hr) (.inl ⟨l, rest, hl, hf, h4 _ _ _ _ _ hx⟩)
      · rename_i hf
        cases hx
        refine mi_in (h1 _ _ _ _ hr) (.inr ⟨fun l' hl' => ?_, by rw [← hl]⟩)
        rw [hl] at hl'; cases hl'; exact hf
    · rename_i hn
      cases hx
      exact mi_in (h1 _ _ _ _ hr) (.inr ⟨fun l hl => absurd hl (hn l), rfl⟩)
  · -- regions whose order is open
    intro call Zgu h2 h5 all l hs ag s r hx
    cases l with
    | nil => cases hx; exact .nil _ _ _
    | cons td rest =>
      simp only at hx
      split at hx
      · simp at hx
      · rename_i o ho
        split at hx
        · rename_i hw
          split at hx
          · rename_i hh
            split at hx
            · rename_i hc
              split at hx
              · simp at hx
              · rename_i g args s1 hk
                simp only [Yah, Yai] at hx
                obtain ⟨rc, hr, hx⟩ := hx
                split at hx
                · rename_i d hv
                  split at hx
                  · rename_i ha
                    exact .call td rest hs ag s o r d s1 g args rc ho hw hh hc hk (h2 _ _ _ _ hr) hv ha (h5 _ _ _ _ _ _ hx)
                  · simp at hx
                · rename_i d hv
                  split at hx
                  · rename_i ha
                    cases hx
                    exact .pan td rest hs ag s o d s1 g args rc ho hw hh hk (h2 _ _ _ _ hr) hv ha.1 ha.2
                  · simp at hx
                · simp at hx
              · rename_i hk
                split at hx
                · rename_i d s1 hex
                  split at hx
                  · rename_i ha
                    exact .oper td rest hs ag s o r d s1 ho hw hh hc hk hex ha (h5 _ _ _ _ _ _ hx)
                  · simp at hx
                · simp at hx
            · simp at hx
          · rename_i hh
            split at hx
            · rename_i d hl
              split at hx
              · split at hx
                · rename_i hb
                  exact .read td rest hs ag s o r d ho hw (by simpa using hh) hl hb (h5 _ _ _ _ _ _ hx)
                · simp at hx
              · rename_i hrd
                exact .light td rest hs ag s o r d ho hw (by simpa using hh) (by simpa using hrd) hl (h5 _ _ _ _ _ _ hx)
            · simp at hx
        · rename_i hw
          exact .skip td rest hs ag s o r ho (by simpa using hw) (h5 _ _ _ _ _ _ hx)
  · -- regions
    intro call Zqk h2 h6 all l s r hx
    cases l with
    | nil => cases hx; exact mo_nil
    | cons o rest =>
      simp only at hx
      split at hx
      · rename_i hw
        split at hx
        · simp at hx
        · rename_i g args s1 hk
          simp only [Yah, Yai] at hx
          obtain ⟨rc, hr, hx⟩ := hx
          split at hx
          · rename_i d hv
            exact mo_go hw hk (h2 _ _ _ _ hr) (.inl ⟨d, hv, h6 _ _ _ _ hx⟩)
          · rename_i d hv
            cases hx
            exact mo_go hw hk (h2 _ _ _ _ hr) (.inr ⟨d, hv, rfl⟩)
          · simp at hx
        · split at hx
          · rename_i d s1 hex
            exact mo_val hw hex (h6 _ _ _ _ hx)
          · rename_i d s1 hex
            cases hx
            exact mo_pan hw hex
          · simp at hx
      · rename_i hw
        exact mo_skip (by simpa using hw) (h6 _ _ _ _ hx)
end
end Go.Abs
namespace Go.Abs
section
variable {P : Program} {pr : FuncId → List D → Option D} {cv : FuncId → Nat → List Cv} {β : Type}
noncomputable def kx (P : Program) (pr : FuncId → List D → Option D) (cv : FuncId → Nat → List Cv) (fn : FuncId) (c : Code) (s : St) (k : X × St → Option β) : Option β := (exec P pr cv fn c s).bind k
noncomputable def ko (P : Program) (pr : FuncId → List D → Option D) (cv : FuncId → Nat → List Cv) (all : Array Oper) (l : List Oper) (s : St) (k : X × St → Option β) : Option β := (Zqk P pr cv all l s).bind k
noncomputable def kIn (P : Program) (pr : FuncId → List D → Option D) (cv : FuncId → Nat → List Cv) (fn : FuncId) (body c : Code) (s : St) (k : X × St → Option β) : Option β := (Zt3 P pr cv fn body c s).bind k
noncomputable def kd (P : Program) (pr : FuncId → List D → Option D) (cv : FuncId → Nat → List Cv) (all : Array Oper) (l : List Todo) (hs : List (Nat × List O)) (ag : List Again) (s : St) (k : X × St → Option β) : Option β := (Zgu P pr cv all l hs ag s).bind k
noncomputable def kSeq (P : Program) (pr : FuncId → List D → Option D) (cv : FuncId → Nat → List Cv) (fn : FuncId) (b : Code) (k : X × St → Option β) : X × St → Option β := fun r =>
  match r.1 with
  | .nrm => kx P pr cv fn b r.2 k
  | x => k (x, r.2)
def kBlk (id : Nat) (k : X × St → Option β) : X × St → Option β := fun r =>
  match r.1 with
  | .ext i => if i = id then k (.nrm, r.2) else k (.ext i, r.2)
  | x => k (x, r.2)
noncomputable def Zxb (P : Program) (pr : FuncId → List D → Option D) (cv : FuncId → Nat → List Cv) (fn : FuncId) (c : Code) (k : X × St → Option β) : X × St → Option β := fun r =>
  match r.1 with
  | .nrm => kx P pr cv fn (.loop c) r.2 k
  | x => k (x, r.2)
noncomputable def Zop (P : Program) (pr : FuncId → List D → Option D) (cv : FuncId → Nat → List Cv) (fn : FuncId) (body : Code) (k : X × St → Option β) : X × St → Option β := fun r =>
  match r.1 with
  | .gto l => match findLabel body l with
    | some rest => kIn P pr cv fn body rest r.2 k
    | none => k (.gto l, r.2)
  | x => k (x, r.2)
noncomputable def Zyy (P : Program) (pr : FuncId → List D → Option D) (cv : FuncId → Nat → List Cv) (fn : FuncId) (v : D) (a b : Code) (s : St) (k : X × St → Option β) : Option β :=
  match v with
  | .e (.bool t) => match t with
    | true => kx P pr cv fn a s k
    | false => kx P pr cv fn b s k
  | _ => none
variable {fn : FuncId} {a b c : Code} {s : St} {k : X × St → Option β}
theorem Zbw : kx P pr cv fn .skip s k = k (.nrm, s) := by unfold kx; rw [exec]; rfl
theorem Zkc {l : Nat} : kx P pr cv fn (.label l) s k = k (.nrm, s) := by unfold kx; rw [exec]; rfl
theorem Zb2 : kx P pr cv fn .ret s k = k (.ret, s) := by unfold kx; rw [exec]; rfl
theorem Zfv {id : Nat} : kx P pr cv fn (.exit id) s k = k (.ext id, s) := by unfold kx; rw [exec]; rfl
theorem Zhn {id : Nat} : kx P pr cv fn (.goto id) s k = k (.gto id, s) := by unfold kx; rw [exec]; rfl
theorem Zai : kx P pr cv fn (.seq a b) s k = kx P pr cv fn a s (kSeq P pr cv fn b k) := by
  unfold kx; rw [exec]
  cases h : exec P pr cv fn a s with
  | none => simp
  | some r =>
    obtain ⟨x, s1⟩ := r
    cases x <;> simp [kSeq, kx]
theorem Zc5 {id : Nat} : kx P pr cv fn (.block id c) s k = kx P pr cv fn c s (kBlk id k) := by
  unfold kx; rw [exec]
  cases h : exec P pr cv fn c s with
  | none => simp
  | some r =>
    obtain ⟨x, s1⟩ := r
    cases x <;> simp [kBlk]
    split <;> simp_all
theorem Zp5 : kx P pr cv fn (.loop c) s k = kx P pr cv fn c s (Zxb P pr cv fn c k) := by
  conv => lhs; unfold kx
  rw [exec]
  unfold kx
  cases h : exec P pr cv fn c s with
  | none => simp
  | some r =>
    obtain ⟨x, s1⟩ := r
    cases x <;> simp [Zxb, kx]
theorem Zi4 : kx P pr cv fn (.scope c) s k = kIn P pr cv fn c c s k := by unfold kx kIn; rw [exec]
theorem Zic {body : Code} : kIn P pr cv fn body c s k = kx P pr cv fn c s (Zop P pr cv fn body k) := by
  unfold kIn; rw [Zt3]
  unfold kx
  cases h : exec P pr cv fn c s with
  | none => simp
  | some r =>
    obtain ⟨x, s1⟩ := r
    cases x <;> simp [Zop]
    split <;> simp_all [kIn]
theorem kx_cond {o : Operand} {d : D} (h : rd s o = some d) : kx P pr cv fn (.cond o a b) s k = Zyy P pr cv fn d a b s k := by
  unfold kx; rw [exec]
  simp only [h]
  unfold Zyy
  split
  · rename_i t ht
    cases ht
    cases t <;> rfl
  · rename_i hn
    cases d with
    | e x =>
      cases x with
      | bool t => exact absurd rfl (hn t)
      | _ => rfl
    | _ => rfl
theorem Za7 {t : Tmp} {tl : List D} {d : List (FuncId × List D)} {r : Rc} {h : List O} : kx P pr cv fn (.cond (.tmp t) a b) ⟨tl, d, r, h⟩ k = Zyy P pr cv fn (tl.getD t Zaw) a b ⟨tl, d, r, h⟩ k := kx_cond rfl
theorem Zak : Zyy P pr cv fn (.e (.bool true)) a b s k = kx P pr cv fn a s k := rfl
theorem Zao : Zyy P pr cv fn (.e (.bool false)) a b s k = kx P pr cv fn b s k := rfl
theorem Za3 : kSeq P pr cv fn b k (.nrm, s) = kx P pr cv fn b s k := rfl
theorem Zc0 : kSeq P pr cv fn b k (.ret, s) = k (.ret, s) := rfl
theorem Zeq {i : Nat} : kSeq P pr cv fn b k (.ext i, s) = k (.ext i, s) := rfl
theorem Zgy {i : Nat} : kSeq P pr cv fn b k (.gto i, s) = k (.gto i, s) := rfl
theorem Ze7 {d : D} : kSeq P pr cv fn b k (.pan d, s) = k (.pan d, s) := rfl
theorem Zcd {id : Nat} : kBlk id k (.nrm, s) = k (.nrm, s) := rfl
theorem Zd3 {id : Nat} : kBlk id k (.ret, s) = k (.ret, s) := rfl
theorem Zer {id i : Nat} : kBlk id k (.ext i, s) = if i = id then k (.nrm, s) else k (.ext i, s) := rfl
theorem Zm5 {id i : Nat} : kBlk id k (.gto i, s) = k (.gto i, s) := rfl
theorem Zj6 {id : Nat} {d : D} : kBlk id k (.pan d, s) = k (.pan d, s) := rfl
theorem Zdx : Zxb P pr cv fn c k (.nrm, s) = kx P pr cv fn (.loop c) s k := rfl
theorem Zgh : Zxb P pr cv fn c k (.ret, s) = k (.ret, s) := rfl
theorem Ze2 {i : Nat} : Zxb P pr cv fn c k (.ext i, s) = k (.ext i, s) := rfl
theorem Zkm {i : Nat} : Zxb P pr cv fn c k (.gto i, s) = k (.gto i, s) := rfl
theorem Zib {d : D} : Zxb P pr cv fn c k (.pan d, s) = k (.pan d, s) := rfl
theorem Zji : Zop P pr cv fn c k (.nrm, s) = k (.nrm, s) := rfl
theorem Zeg : Zop P pr cv fn c k (.ret, s) = k (.ret, s) := rfl
theorem Zk3 {i : Nat} : Zop P pr cv fn c k (.ext i, s) = k (.ext i, s) := rfl
theorem kScope_gto {l : Nat} {rest : Code} (h : findLabel c l = some rest) : Zop P pr cv fn c k (.gto l, s) = kIn P pr cv fn c rest s k := by simp [Zop, h]
theorem Zk2 {d : D} : Zop P pr cv fn c k (.pan d, s) = k (.pan d, s) := rfl
theorem Zff {res : Option β} (inv : Nat → St → Prop) (step : ∀ n s, inv n s → (∀ m s', m < n → inv m s' → kx P pr cv fn (.loop c) s' k = res) → kx P pr cv fn c s (Zxb P pr cv fn c k) = res) (n : Nat) (h : inv n s) :
    kx P pr cv fn (.loop c) s k = res := by
  induction n using Nat.strongRecOn generalizing s with
  | _ n ih =>
    rw [Zp5]
    exact step n s h (fun m s' hm h' => ih m hm h')
theorem Za1 {id : Nat} {ops : Array Oper} (hc : cv fn id = []) : kx P pr cv fn (.region id ops false) s k = ko P pr cv ops ops.toList s k := by
  unfold kx ko; rw [exec]; simp [hc, Zdn]
theorem Zdb {id : Nat} {ops : Array Oper} : kx P pr cv fn (.region id ops false) s k = ko P pr cv ops ops.toList (Zdn (cv fn id) s) k := by
  unfold kx ko; rw [exec]
theorem Zed {id : Nat} {ops : Array Oper} {l : List Todo} (hp : Zh4 ops = some l) : kx P pr cv fn (.region id ops true) s k = kd P pr cv ops l [] [] (Zh5 ops.toList (Zdn (cv fn id) s)) k := by
  unfold kx kd; rw [exec]; simp [hp]
section
variable {all : Array Oper} {hs : List (Nat × List O)} {ag : List Again}
theorem Zdy : kd P pr cv all [] hs ag s k = k (.nrm, s) := by unfold kd; rw [Zgu]; rfl
theorem kd_light {i bf : Nat} {nm mv : List Tmp} {rest : List Todo} {o : Oper} {d : D} (ho : all[i]? = some o) (hg : want all o s = true) (hx : Zee P o s = some d) :
    kd P pr cv all (⟨i, false, false, bf, nm, mv⟩ :: rest) hs ag s k = kd P pr cv all rest hs ag (s.put o.dst d) k := by
  unfold kd; rw [Zgu]; simp [ho, hg, hx]
theorem kd_read {i bf : Nat} {nm mv : List Tmp} {rest : List Todo} {o : Oper} {d : D} (ho : all[i]? = some o) (hg : want all o s = true) (hx : Zee P o s = some d) (hb : Zjn P o bf s.t d hs) :
    kd P pr cv all (⟨i, false, true, bf, nm, mv⟩ :: rest) hs ag s k = kd P pr cv all rest hs ({ i := i, o := o, t := s.t, d := d } :: ag) (s.put o.dst d) k := by
  unfold kd; rw [Zgu]; simp [ho, hg, hx, hb]
theorem Zyw {td : Todo} {rest : List Todo} {o : Oper} (ho : all[td.i]? = some o) (hg : want all o s = false) :
    kd P pr cv all (td :: rest) hs ag s k = kd P pr cv all rest hs ag (s.put o.dst Zaw) k := by
  unfold kd; rw [Zgu]; simp [ho, hg]
theorem kd_oper {i bf : Nat} {rd : Bool} {nm mv : List Tmp} {rest : List Todo} {o : Oper} {d : D} {s1 : St} (ho : all[i]? = some o) (hg : want all o s = true) (hc : Zo3 ⟨i, true, rd, bf, nm, mv⟩ s.t = true) (hk : Zfy o s = .other) (hx : exOp P [] o s = some (.val d, s1)) (ha : Zjg P bf s1.h ag) :
    kd P pr cv all (⟨i, true, rd, bf, nm, mv⟩ :: rest) hs ag s k = kd P pr cv all rest ((i, s.h) :: hs) ag (s1.put o.dst d) k := by
  unfold kd; rw [Zgu]; simp [ho, hg, hc, hk, hx, ha]
theorem kd_call {i bf : Nat} {rd : Bool} {nm mv : List Tmp} {rest : List Todo} {o : Oper} {g : Tgt} {args : List D} {d : D} {s1 : St} {h : List O} (ho : all[i]? = some o) (hg : want all o s = true) (hc : Zo3 ⟨i, true, rd, bf, nm, mv⟩ s.t = true) (hk : Zfy o s = .go g args s1) (hx : call P pr cv g args s1.h = some (.val d, h)) (ha : Zjg P bf h ag) :
    kd P pr cv all (⟨i, true, rd, bf, nm, mv⟩ :: rest) hs ag s k = kd P pr cv all rest ((i, s.h) :: hs) ag (({ s1 with h := h } : St).put o.dst d) k := by
  unfold kd; rw [Zgu]; simp [ho, hg, hc, hk, hx, ha]
end
variable {all : Array Oper} {l : List Oper}
theorem Zae : ko P pr cv all [] s k = k (.nrm, s) := by unfold ko; rw [Zqk]; rfl
noncomputable def kR (P : Program) (pr : FuncId → List D → Option D) (cv : FuncId → Nat → List Cv) (all : Array Oper) (l : List Oper) (dst : Option Tmp) (k : X × St → Option β) (r : Option (Out × St)) : Option β :=
  match r with
  | some (.val d, s1) => ko P pr cv all l (s1.put dst d) k
  | some (.pan d, s1) => k (.pan d, s1)
  | _ => none
theorem Za9 {dst : Tmp} {d : D} {tl : List D} {df : List (FuncId × List D)} {r : Rc} {h : List O} : kR P pr cv all l (some dst) k (some (.val d, ⟨tl, df, r, h⟩)) = ko P pr cv all l ⟨tl.set dst d, df, r, h⟩ k := rfl
theorem Zcf {d : D} : kR P pr cv all l none k (some (.val d, s)) = ko P pr cv all l s k := rfl
theorem Zra {dst : Option Tmp} {d : D} : kR P pr cv all l dst k (some (.pan d, s)) = k (.pan d, s) := rfl
noncomputable def kG (P : Program) (pr : FuncId → List D → Option D) (cv : FuncId → Nat → List Cv) (v : D) (b : Bool) (all : Array Oper) (o : Oper) (l : List Oper) (s : St) (k : X × St → Option β) : Option β :=
  if (match v with | .e (.bool c) => c == b | _ => false) then ko P pr cv all ({ o with guard := none } :: l) s k else ko P pr cv all l (s.put o.dst Zaw) k
theorem Zch {o : Oper} {c b : Bool} (h : c = b) : kG P pr cv (.e (.bool c)) b all o l s k = ko P pr cv all ({ o with guard := none } :: l) s k := by simp [kG, h]
theorem Ze8 {o : Oper} {c b : Bool} (h : c = !b) : kG P pr cv (.e (.bool c)) b all o l s k = ko P pr cv all l (s.put o.dst Zaw) k := by cases c <;> cases b <;> simp_all [kG]
theorem Zke {o : Oper} {b : Bool} : kG P pr cv Zaw b all o l s k = ko P pr cv all l (s.put o.dst Zaw) k := rfl
theorem Zlg {o : Oper} (hg : o.guard = none) : Zqk P pr cv all (o :: l) s = match Zfy o s with
      | .bad => none
      | .go g args s1 => (call P pr cv g args s1.h).bind fun r => match r.1 with
        | .val d => Zqk P pr cv all l (({ s1 with h := r.2 } : St).put o.dst d)
        | .pan d => some (.pan d, { s1 with h := r.2 })
        | .rcv _ => none
      | .other => match exOp P l o s with
        | some (.val d, s1) => Zqk P pr cv all l (s1.put o.dst d)
        | some (.pan d, s1) => some (.pan d, s1)
        | _ => none := by rw [Zqk]; simp only [want, hg, if_true]; rfl
theorem Zas {dst : Option Tmp} {op : Op} {ty : TypeId} {pos : String} {af : Array Edge} {j t : Nat} {b : Bool} {tl : List D} {df : List (FuncId × List D)} {r : Rc} {h : List O} (hj : (all[j]?).bind (·.dst) = some t) (ht : t < tl.length) :
    ko P pr cv all (⟨dst, op, ty, pos, af, some (j, b)⟩ :: l) ⟨tl, df, r, h⟩ k = kG P pr cv (tl.getD t Zaw) b all ⟨dst, op, ty, pos, af, none⟩ l ⟨tl, df, r, h⟩ k := by
  unfold ko kG
  have hw : want all ⟨dst, op, ty, pos, af, some (j, b)⟩ ⟨tl, df, r, h⟩ = (match tl.getD t Zaw with | .e (.bool c) => c == b | _ => false) := by
    simp only [want, hj]
    rw [List.getD_eq_getElem?_getD, List.getElem?_eq_getElem ht]
    simp only [Option.getD_some]
    cases tl[t] with
    | e x => cases x <;> rfl
    | _ => rfl
  have hko : Zfy ⟨dst, op, ty, pos, af, some (j, b)⟩ ⟨tl, df, r, h⟩ = Zfy ⟨dst, op, ty, pos, af, none⟩ ⟨tl, df, r, h⟩ := rfl
  have hex : exOp P l ⟨dst, op, ty, pos, af, some (j, b)⟩ ⟨tl, df, r, h⟩ = exOp P l ⟨dst, op, ty, pos, af, none⟩ ⟨tl, df, r, h⟩ := rfl
  rw [Zqk]
  simp only [hw, hko, hex]
  by_cases hc : (match tl.getD t Zaw with | .e (.bool c) => c == b | _ => false) = true
  · rw [if_pos hc, if_pos hc]
    unfold ko; rw [Zlg rfl]; rfl
  · rw [if_neg hc, if_neg hc]; rfl
theorem Zan {dst : Option Tmp} {op : Op} {ty : TypeId} {pos : String} {af : Array Edge} (hk : ∀ c, op ≠ .call c) : ko P pr cv all (⟨dst, op, ty, pos, af, none⟩ :: l) s k = kR P pr cv all l dst k (exOp P l ⟨dst, op, ty, pos, af, none⟩ s) := by
  unfold ko
  rw [Zlg rfl]
  have : Zfy ⟨dst, op, ty, pos, af, none⟩ s = .other := by
    unfold Zfy; cases op <;> simp_all
  rw [this]
  simp only
  unfold kR
  cases hx : exOp P l ⟨dst, op, ty, pos, af, none⟩ s with
  | none => rfl
  | some r =>
    obtain ⟨o, s1⟩ := r
    cases o <;> rfl
theorem Zbd {dst : Option Tmp} {b : Builtin} {args : Array Operand} {ats : Array TypeId} {ty : TypeId} {pos : String} {af : Array Edge} :
    ko P pr cv all (⟨dst, .call { callee := .builtin b, args := args, argTypes := ats }, ty, pos, af, none⟩ :: l) s k = kR P pr cv all l dst k (Zge P b ats args.toList s) := by
  unfold ko
  rw [Zlg rfl]
  simp only [Zfy, exOp]
  unfold kR
  cases hx : Zge P b ats args.toList s with
  | none => rfl
  | some r =>
    obtain ⟨o, s1⟩ := r
    cases o <;> rfl
noncomputable def kC (P : Program) (pr : FuncId → List D → Option D) (cv : FuncId → Nat → List Cv) (all : Array Oper) (l : List Oper) (dst : Option Tmp) (s1 : St) (k : X × St → Option β) (r : Option (Out × List O)) : Option β :=
  match r with
  | some (.val d, h) => ko P pr cv all l (({ s1 with h := h } : St).put dst d) k
  | some (.pan d, h) => k (.pan d, { s1 with h := h })
  | _ => none
theorem Zbq {dst : Tmp} {d : D} {tl : List D} {df : List (FuncId × List D)} {r : Rc} {h0 h : List O} : kC P pr cv all l (some dst) ⟨tl, df, r, h0⟩ k (some (.val d, h)) = ko P pr cv all l ⟨tl.set dst d, df, r, h⟩ k := rfl
theorem Zp6 {d : D} {tl : List D} {df : List (FuncId × List D)} {r : Rc} {h0 h : List O} : kC P pr cv all l none ⟨tl, df, r, h0⟩ k (some (.val d, h)) = ko P pr cv all l ⟨tl, df, r, h⟩ k := rfl
theorem Zgz {dst : Option Tmp} {d : D} {tl : List D} {df : List (FuncId × List D)} {r : Rc} {h0 h : List O} : kC P pr cv all l dst ⟨tl, df, r, h0⟩ k (some (.pan d, h)) = k (.pan d, ⟨tl, df, r, h⟩) := rfl
theorem ko_go {o : Oper} {g : Tgt} {args : List D} {s1 : St} (hg : o.guard = none) (hk : Zfy o s = .go g args s1) : ko P pr cv all (o :: l) s k = kC P pr cv all l o.dst s1 k (call P pr cv g args s1.h) := by
  unfold ko
  rw [Zlg hg, hk]
  simp only
  unfold kC
  cases hx : call P pr cv g args s1.h with
  | none => rfl
  | some r =>
    obtain ⟨o, s1⟩ := r
    cases o <;> rfl
noncomputable def kT (P : Program) (pr : FuncId → List D → Option D) (cv : FuncId → Nat → List Cv) (f : FuncId) (all : Array Oper) (l : List Oper) (dst : Option Tmp) (k : X × St → Option β) (r : Option (List D × St)) : Option β :=
  match r with
  | some (ds, s1) => kC P pr cv all l dst s1 k (call P pr cv (.fn f) ds s1.h)
  | none => none
theorem Zbg {f : FuncId} {dst : Option Tmp} {ds : List D} {tl : List D} {df : List (FuncId × List D)} {r : Rc} {h : List O} : kT P pr cv f all l dst k (some (ds, ⟨tl, df, r, h⟩)) = kC P pr cv all l dst ⟨tl, df, r, h⟩ k (call P pr cv (.fn f) ds h) := rfl
theorem Zbf {dst : Option Tmp} {f : FuncId} {args : Array Operand} {ats : Array TypeId} {ty : TypeId} {pos : String} {af : Array Edge} :
    ko P pr cv all (⟨dst, .call { callee := .value (.func f), args := args, argTypes := ats }, ty, pos, af, none⟩ :: l) s k = kT P pr cv f all l dst k (tks s args.toList) := by
  cases ht : tks s args.toList with
  | none =>
    unfold ko kT
    rw [Zlg rfl]
    simp [Zfy, rd, ht]
  | some r =>
    obtain ⟨ds, s1⟩ := r
    exact ko_go rfl (by simp [Zfy, rd, ht, Zlu])
noncomputable def kF (P : Program) (pr : FuncId → List D → Option D) (cv : FuncId → Nat → List Cv) (fn : Func) (h : List O) : X × St → Option (Out × List O) := fun r =>
  match wantT r.1 with
  | some u => (undo P pr cv r.2.d u r.2.h).bind fun q => Zqa P fn h q.1 r.2.t q.2
  | none => none
theorem Zbm {f : FuncId} {args : List D} {h : List O} {fn : Func} {c : Code} (h0 : pr f args = none) (h1 : P.funcs[f]? = some fn) (h2 : Zo4 fn = some c) :
    call P pr cv (.fn f) args h = kx P pr cv f c { t := Zbj fn args, d := [], r := .no, h := h } (kF P pr cv fn h) := by
  rw [call]; simp only [h0, h1, h2]; rfl
theorem call_pr {f : FuncId} {args : List D} {h : List O} {d : D} (h0 : pr f args = some d) : call P pr cv (.fn f) args h = some (.val d, h) := by
  rw [call]; simp only [h0]
theorem Zrh {u : Option D} {h : List O} : undo P pr cv [] u h = some (u, h) := by rw [undo]
theorem Zb3 {fn : Func} {h h' : List O} {tl : List D} {r : Rc} : kF P pr cv fn h (.ret, ⟨tl, [], r, h'⟩) = Zqa P fn h none tl h' := by simp [kF, wantT, Zrh]
theorem Zfh {fn : Func} {h h' : List O} {tl : List D} {r : Rc} : kF P pr cv fn h (.nrm, ⟨tl, [], r, h'⟩) = Zqa P fn h none tl h' := by simp [kF, wantT, Zrh]
theorem Zgs {fn : Func} {h h' : List O} {tl : List D} {r : Rc} {d : D} : kF P pr cv fn h (.pan d, ⟨tl, [], r, h'⟩) = Zqa P fn h (some d) tl h' := by simp [kF, wantT, Zrh]
theorem Zdw {fn : Func} {h h' : List O} {tl : List D} {d : D} : Zqa P fn h (some d) tl h' = some (.pan d, gc h.length h h' d) := rfl
theorem Zcq {h : List O} {d : D} (hf : Fit h.length d) : gc h.length h h d = h := by
  unfold gc; split <;> simp
theorem Zb4 {h ex : List O} {d : D} (hf : Fit h.length d) : gc h.length h (h ++ ex) d = h := by
  unfold gc
  have : Keeps h.length h (h ++ ex) := ⟨by simp, fun i hi o o' h1 h2 => by
    rw [List.getElem?_append_left hi, h1] at h2
    cases h2; exact .inl (.refl _)⟩
  rw [if_pos ⟨hf, this⟩]; simp
theorem Za2 {tl : List D} {df : List (FuncId × List D)} {r : Rc} {h : List O} {t : Tmp} (ho : ownD (tl.getD t Zaw) = false) : tk ⟨tl, df, r, h⟩ (.tmp t) = some (tl.getD t Zaw, ⟨tl, df, r, h⟩) := by
  simp only [tk, ho, Bool.false_eq_true, if_false]
theorem Zaf {tl : List D} {df : List (FuncId × List D)} {r : Rc} {h : List O} {t : Tmp} (ho : ownD (tl.getD t Zaw) = false) : sh ⟨tl, df, r, h⟩ (.tmp t) = some (tl.getD t Zaw, ⟨tl, df, r, h⟩) := by
  simp only [sh, ho, Bool.false_eq_true, if_false]
theorem Zab {tl : List D} {df : List (FuncId × List D)} {r : Rc} {h : List O} {t : Tmp} : rd ⟨tl, df, r, h⟩ (.tmp t) = some (tl.getD t Zaw) := rfl
theorem Zag {v : Value} : rd s (.const v) = ofV v := rfl
theorem Zap {v : Value} : tk s (.const v) = (ofV v).map fun d => (d, s) := rfl
theorem Zbh {v : Value} : sh s (.const v) = (ofV v).map fun d => (d, s) := rfl
theorem Zoz {f : FuncId} : rd s (.func f) = some (.func (.func f) [] []) := rfl
theorem Zam {j : IntKind} {n : Int} : ofV (.int j n) = some (.e (.int j n)) := rfl
theorem Zax {b : Bool} : ofV (.bool b) = some (.e (.bool b)) := rfl
theorem Zja {b : ByteArray} : ofV (.string b) = some (.e (.str b)) := rfl
theorem Zcw : ofV (.slice none 0 0) = some (.osl false true 0 []) := rfl
theorem Zdi : ofV .nilFunc = some (.e .nilfn) := rfl
theorem Zjq : ofV .nilIface = some (.e .nilif) := rfl
theorem Zjz : ofV (.pointer none) = some (.e .nilptr) := rfl
section
variable {dst : Option Tmp} {ty : TypeId} {pos : String} {af : Array Edge} {g : Option (Nat × Bool)} {tl : List D} {df : List (FuncId × List D)} {r : Rc} {h : List O}
theorem Za4 {t : Tmp} (ho : ownD (tl.getD t Zaw) = false) : exOp P l ⟨dst, .move (.tmp t), ty, pos, af, g⟩ ⟨tl, df, r, h⟩ = some (.val (tl.getD t Zaw), ⟨tl, df, r, h⟩) := by
  simp only [exOp, Za2 ho, Zaf ho]; split <;> rfl
theorem Zea {v : Value} : exOp P l ⟨dst, .move (.const v), ty, pos, af, g⟩ s = (ofV v).map fun d => (.val d, s) := by
  simp only [exOp, Zap, Zbh]; split <;> cases ofV v <;> rfl
theorem Za0 {x : Operand} : exOp P l ⟨dst, .assign x, ty, pos, af, g⟩ s = (tk s x).map fun r => (.val r.1, r.2) := rfl
theorem Za6 {op : BinOp} {t yt : TypeId} {x y : Operand} : exOp P l ⟨dst, .binOp op t x y yt, ty, pos, af, g⟩ s = match rd s x, rd s y with
    | some a, some b => (binD P op t a b (Region.isConst y)).map fun d => (.val d, s)
    | _, _ => none := rfl
theorem Ze0 {op : UnOp} {t : TypeId} {x : Operand} : exOp P l ⟨dst, .unOp op t x, ty, pos, af, g⟩ s = match rd s x with
    | some a => (unD op a).map fun d => (.val d, s)
    | none => none := rfl
theorem Zcs {src dt : TypeId} {x : Operand} : exOp P l ⟨dst, .convert src dt x, ty, pos, af, g⟩ s = match sh s x with
    | some (a, s1) => (Zw6 P src dt a).map fun d => (.val d, s1)
    | none => none := rfl
theorem Zat {c a b : Operand} : exOp P l ⟨dst, .pick c a b, ty, pos, af, g⟩ s = match rd s c with
    | some (.e (.bool t)) => (sh s (if t then a else b)).map fun r => (.val r.1, r.2)
    | _ => none := rfl
theorem Zd4 {t : TypeId} : exOp P l ⟨dst, .alloc t, ty, pos, af, g⟩ s = match Zhb P t with
    | some z => if notTup z then some (.val (.ptr s.h.length 0), { s with h := s.h ++ [.cells (cellsOf z)] }) else none
    | none => none := rfl
theorem Zdq {t : TypeId} {x : Operand} : exOp P l ⟨dst, .box t x, ty, pos, af, g⟩ s = match tk s x with
    | some (d, s1) => if notTup d then some (.val (.ptr s1.h.length 0), { s1 with h := s1.h ++ [.cells (cellsOf d)] }) else none
    | none => none := rfl
theorem Zdk {t : TypeId} {ps : Array (Nat × Operand)} : exOp P l ⟨dst, .build t ps, ty, pos, af, g⟩ s = match tks s (ps.toList.map (·.2)) with
    | some (ds, s1) => (Zm7 P t ((ps.toList.map (·.1)).zip ds)).map fun d => (.val d, s1)
    | none => none := rfl
theorem Zca {t : TypeId} {n : Nat} {ps : Array (Nat × Operand)} : exOp P l ⟨dst, .buildSlice t n ps, ty, pos, af, g⟩ s = match shs s (ps.toList.map (·.2)) with
    | some (ds, s1) => (Zef P t n ((ps.toList.map (·.1)).zip ds)).map fun d => (.val d, s1)
    | none => none := rfl
theorem Zaj {t : TypeId} {a : Operand} {b : Bool} (ht : (taken l dst || back l a) = b) : exOp P l ⟨dst, .load t a, ty, pos, af, g⟩ s = match (rd s a).bind adOf with
    | some ad => (Zn3 P s t ad b).map fun r => (.val r.1, r.2)
    | none => none := by simp only [exOp, ht]; rfl
theorem Zbb {t : TypeId} {a x : Operand} : exOp P l ⟨dst, .store t a x, ty, pos, af, g⟩ s = match (rd s a).bind adOf, tk s x with
    | some ad, some (d, s1) => (Zwj P s1 t ad d).map fun s2 => (.val Zaw, s2)
    | _, _ => none := rfl
theorem Zbl {x : Operand} : exOp P l ⟨dst, .nilCheck x, ty, pos, af, g⟩ s = match rd s x with
    | some d => match d with
      | .ptr _ _ | .rptr _ _ | .func (.func _) _ _ | .func (.yield _) _ _ => some (.val d, s)
      | _ => none
    | none => none := rfl
theorem Zg0 {t : TypeId} {x : Operand} : exOp P l ⟨dst, .makeInterface t x, ty, pos, af, g⟩ s = match sh s x, P.underlying t with
    | some (d, s1), some u => if Zk4 u then none else (match d with | .e v => some (.val (.e (.iface t v)), s1) | d => some (.val (.iface t d), s1))
    | _, _ => none := rfl
theorem Zel {f : FuncId} {first cap : Array Operand} : exOp P l ⟨dst, .makeFunc (.func f) first cap, ty, pos, af, g⟩ s = match shs s first.toList with
    | some (ds, s1) => match shs s1 cap.toList with
      | some (cs, s2) => some (.val (.func (.func f) ds cs), s2)
      | none => none
    | none => none := rfl
theorem Zhv {t : TypeId} : exOp P l ⟨dst, .makeMap t none, ty, pos, af, g⟩ s = some (.val (.map s.h.length), { s with h := s.h ++ [.map []] }) := rfl
theorem Zgt {t : TypeId} {x : Operand} {lo hi mx : Option Operand} : exOp P l ⟨dst, .slice t x lo hi mx, ty, pos, af, g⟩ s = match sh s x with
    | some (d, s1) => match optO s1 lo, optO s1 hi, optO s1 mx with
      | some lo, some hi, some mx => (Zkv P t d lo hi mx).map fun d => (.val d, s1)
      | _, _, _ => none
    | none => none := rfl
theorem Za5 {t : TypeId} {x : Operand} {f : Nat} : exOp P l ⟨dst, .fieldAddr t x f, ty, pos, af, g⟩ s = match rd s x with
    | some d => (Zaa P t d f).map fun d => (.val d, s)
    | none => none := rfl
theorem Zbo {t : TypeId} {x ix : Operand} : exOp P l ⟨dst, .indexAddr t x ix, ty, pos, af, g⟩ s = match sh s x with
    | some (d, s1) => match rd s1 ix with
      | some i => (Zeh P t d i).map fun d => (.val d, s1)
      | none => none
    | none => none := rfl
theorem Zkn {x : Operand} : exOp P l ⟨dst, .panic x, ty, pos, af, g⟩ s = match rd s x with
    | some (.iface t d) => some (.pan (.iface t d), s)
    | some (.e (.iface t d)) => some (.pan (.e (.iface t d)), s)
    | _ => none := rfl
theorem Zc8 {t : Tmp} {i : Nat} : exOp P l ⟨dst, .extract (.tmp t) i, ty, pos, af, g⟩ s = match s.t[t]? with
      | some (.tup vs) => match vs[i]? with
        | some d => if ownD d then (if notTup d then some (.val d, { s with t := s.t.set t (.tup (vs.set i (left d))) }) else none) else some (.val d, s)
        | none => none
      | _ => none := rfl
end
end
end Go.Abs
