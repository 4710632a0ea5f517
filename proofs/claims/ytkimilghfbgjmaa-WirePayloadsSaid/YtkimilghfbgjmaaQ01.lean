/-
  REGIONS WHOSE ORDER IS OPEN: an operation looks at its own slots alone. REGIONS WHOSE ORDER IS OPEN: light operations. No condition.
-/
import Derived.Test.YtkimilghfbgjmaaQ00

open List renaming any_eq_false → Ya0, map_congr_left → Ya1
open Option renaming map_some → Ya2
namespace Go.Abs
variable {P : Program}
def opTs (o : Op) : List Tmp := o.operands.toList.filterMap Zyp
def AgT (N : List Tmp) (s s' : St) : Prop := s.t.length = s'.t.length ∧ ∀ t ∈ N, s.t[t]? = s'.t[t]?
structure Ag (N : List Tmp) (s s' : St) : Prop where
  h : s.h = s'.h
  d : s.d = s'.d
  r : s.r = s'.r
  t : AgT N s s'
theorem AgT.get {N : List Tmp} {s s' : St} (h : AgT N s s') {t : Tmp} (ht : t ∈ N) : s.t.getD t Zaw = s'.t.getD t Zaw := by
  simp [List.getD, h.2 t ht]
theorem mem_opTmp {N : List Tmp} {x : Operand} {t : Tmp} (h : x = .tmp t) {l : List Operand} (hx : x ∈ l) (hN : ∀ t ∈ l.filterMap Zyp, t ∈ N) : t ∈ N :=
  hN t (List.mem_filterMap.2 ⟨x, hx, by subst h; rfl⟩)
def InN (N : List Tmp) : Operand → Prop
  | .tmp t => t ∈ N
  | _ => True
theorem Zu6 {N : List Tmp} {l : List Operand} (hN : ∀ t ∈ l.filterMap Zyp, t ∈ N) {x : Operand} (hx : x ∈ l) : InN N x := by
  cases x with
  | tmp t => exact mem_opTmp rfl hx hN
  | _ => trivial
theorem Zy3 {N : List Tmp} {s s' : St} (h : AgT N s s') {x : Operand} (hx : InN N x) : rd s' x = rd s x := by
  cases x with
  | tmp t => simp only [rd, h.get hx]
  | _ => rfl
def cpD (d : D) : Option D := if excD d then none else (match d with | .tup _ => some d | d => some (shr d))
def Red (v v' : D) : Prop := (ownD v = false → v' = v) ∧ (excD v = false → cpD v' = cpD v)
theorem Red.refl (v : D) : Red v v := ⟨fun _ => rfl, fun _ => rfl⟩
theorem cpD_exc {v v' : D} (h : cpD v' = cpD v) (hv : excD v = false) : excD v' = false := by
  unfold cpD at h
  rw [hv] at h
  cases he : excD v' with
  | false => rfl
  | true => rw [he] at h; cases v <;> simp at h
theorem Red.trans {v v1 v2 : D} (h : Red v v1) (k : Red v1 v2) : Red v v2 :=
  ⟨fun ho => by have e := h.1 ho; subst e; exact k.1 ho, fun he => (k.2 (cpD_exc (h.2 he) he)).trans (h.2 he)⟩
theorem cp0 {d : D} (h : exc0 d = false) : exc0 (Zh7 d) = false ∧ shr0 (Zh7 d) = shr0 d ∧ exc0 (kep0 d) = false ∧ shr0 (kep0 d) = shr0 d := by
  cases d with
  | osl ex fu sz es => cases ex <;> cases fu <;> simp_all [exc0, Zh7, shr0, kep0]
  | _ => simp_all [exc0, Zh7, shr0, kep0]
theorem Zr8 (d : D) (h : ∀ cs, d ≠ .agg cs) (h' : ∀ cs, d ≠ .tup cs) : (∀ cs, Zh7 d ≠ .agg cs) ∧ (∀ cs, Zh7 d ≠ .tup cs) ∧ (∀ cs, kep0 d ≠ .agg cs) ∧ (∀ cs, kep0 d ≠ .tup cs) := by
  cases d with
  | osl ex fu sz es => cases ex <;> cases fu <;> simp [Zh7, kep0]
  | _ => simp_all [Zh7, kep0]
theorem Zrv {d : D} (h : ∀ cs, d ≠ .agg cs) (h' : ∀ cs, d ≠ .tup cs) : cpD d = if exc0 d then none else some (shr0 d) := by
  unfold cpD
  cases d <;> simp_all [excD, shr] <;> rfl
theorem red_leftT (v : D) : Red v (Zlo v) := by
  refine ⟨fun ho => ?_, fun he => ?_⟩
  · have l0 : ∀ d, own0 d = false → Zh7 d = d := by
      intro d hd; cases d <;> simp_all [own0, Zh7]
    have lA : ∀ d, ownA d = false → left d = d := by
      intro d hd
      cases d with
      | agg cs =>
        simp only [ownA, Ya0] at hd
        simp only [left]; congr 1
        exact (Ya1 (fun x hx => l0 x (by simpa using hd x hx))).trans (List.map_id _)
      | _ => exact l0 _ (by simpa [ownA] using hd)
    cases v with
    | tup vs =>
      simp only [ownD, Ya0] at ho
      simp only [Zlo]; congr 1
      exact (Ya1 (fun x hx => lA x (by simpa using ho x hx))).trans (List.map_id _)
    | _ => exact lA _ (by simpa [ownD] using ho)
  · cases hv : v with
    | agg cs =>
      subst hv
      simp only [excD, Ya0] at he
      have e1 : (cs.map Zh7).any exc0 = false := by
        simp only [List.any_map, Ya0, Function.comp]
        intro x hx; rw [(cp0 (by simpa using he x hx)).1]; simp
      have e2 : cs.any exc0 = false := by simpa using he
      simp only [Zlo, left, cpD, excD, e1, e2, shr, List.map_map, Bool.false_eq_true, if_false]
      congr 2
      exact Ya1 (fun x hx => (cp0 (by simpa using he x hx)).2.1)
    | tup vs =>
      subst hv
      have ho : ownD (.tup vs) = false := by simpa [excD] using he
      have lt : Zlo (.tup vs) = .tup vs := by
        have l0 : ∀ d, own0 d = false → Zh7 d = d := by
          intro d hd; cases d <;> simp_all [own0, Zh7]
        have lA : ∀ d, ownA d = false → left d = d := by
          intro d hd
          cases d with
          | agg cs =>
            simp only [ownA, Ya0] at hd
            simp only [left]; congr 1
            exact (Ya1 (fun x hx => l0 x (by simpa using hd x hx))).trans (List.map_id _)
          | _ => exact l0 _ (by simpa [ownA] using hd)
        simp only [ownD, Ya0] at ho
        simp only [Zlo]; congr 1
        exact (Ya1 (fun x hx => lA x (by simpa using ho x hx))).trans (List.map_id _)
      rw [lt]
    | _ =>
      rw [← hv]
      have a1 : ∀ cs, v ≠ .agg cs := by subst hv; simp
      have a2 : ∀ cs, v ≠ .tup cs := by subst hv; simp
      have e : Zlo v = Zh7 v := by subst hv; rfl
      have h0 : exc0 v = false := by subst hv; simpa [excD] using he
      obtain ⟨b1, b2, _, _⟩ := Zr8 v a1 a2
      rw [e, Zrv b1 b2, Zrv a1 a2, (cp0 h0).1, (cp0 h0).2.1, h0]
theorem red_kep (v : D) (hn : notTup v = true) : Red v (kep v) := by
  refine ⟨fun ho => ?_, fun he => ?_⟩
  · have k0 : ∀ d, own0 d = false → kep0 d = d := by
      intro d hd; cases d <;> simp_all [own0, kep0]
    cases v with
    | agg cs =>
      have hd : ∀ x ∈ cs, own0 x = false := by simpa [ownD, ownA] using ho
      simp only [kep]; congr 1
      exact (Ya1 (fun x hx => k0 x (hd x hx))).trans (List.map_id _)
    | tup vs => simp [notTup] at hn
    | _ => exact k0 _ (by simpa [ownD, ownA] using ho)
  · cases hv : v with
    | agg cs =>
      subst hv
      simp only [excD, Ya0] at he
      have e1 : (cs.map kep0).any exc0 = false := by
        simp only [List.any_map, Ya0, Function.comp]
        intro x hx; rw [(cp0 (by simpa using he x hx)).2.2.1]; simp
      have e2 : cs.any exc0 = false := by simpa using he
      simp only [kep, cpD, excD, e1, e2, shr, List.map_map, Bool.false_eq_true, if_false]
      congr 2
      exact Ya1 (fun x hx => (cp0 (by simpa using he x hx)).2.2.2)
    | tup vs => subst hv; simp [notTup] at hn
    | _ =>
      rw [← hv]
      have a1 : ∀ cs, v ≠ .agg cs := by subst hv; simp
      have a2 : ∀ cs, v ≠ .tup cs := by subst hv; simp
      have e : kep v = kep0 v := by subst hv; rfl
      have h0 : exc0 v = false := by subst hv; simpa [excD] using he
      obtain ⟨_, _, b1, b2⟩ := Zr8 v a1 a2
      rw [e, Zrv b1 b2, Zrv a1 a2, (cp0 h0).2.2.1, (cp0 h0).2.2.2, h0]
structure Touch (N : List Tmp) (s s1 : St) : Prop where
  len : s1.t.length = s.t.length
  far : ∀ t, t ∉ N → s1.t[t]? = s.t[t]?
  red : ∀ t, Red (s.t.getD t Zaw) (s1.t.getD t Zaw)
theorem Touch.refl (N : List Tmp) (s : St) : Touch N s s := ⟨rfl, fun _ _ => rfl, fun _ => .refl _⟩
theorem Touch.trans {N : List Tmp} {s s1 s2 : St} (h : Touch N s s1) (k : Touch N s1 s2) : Touch N s s2 :=
  ⟨k.len.trans h.len, fun t ht => (k.far t ht).trans (h.far t ht), fun t => (h.red t).trans (k.red t)⟩
theorem Touch.setT {N : List Tmp} {s : St} {t : Tmp} (ht : t ∈ N) {v : D} (hv : Red (s.t.getD t Zaw) v) (h : List O) (d : List (FuncId × List D)) (r : Rc) : Touch N s { t := s.t.set t v, d := d, r := r, h := h } := by
  refine ⟨by simp, fun u hu => ?_, fun u => ?_⟩
  · have hne : t ≠ u := fun e => hu (e ▸ ht)
    simp only; rw [List.getElem?_set_ne hne]
  · by_cases e : t = u
    · subst e
      by_cases hl : t < s.t.length
      · simpa [List.getD, hl] using hv
      · have h1 : s.t.set t v = s.t := List.set_eq_of_length_le (Nat.le_of_not_lt hl)
        simp only [h1]; exact .refl _
    · simp only [List.getD, List.getElem?_set_ne e]; exact .refl _
theorem Touch.mem {N : List Tmp} {s s1 : St} (k : Touch N s s1) (h : List O) (d : List (FuncId × List D)) (r : Rc) : Touch N s { s1 with h := h, d := d, r := r } := ⟨k.len, k.far, k.red⟩
structure Both (N : List Tmp) (s s' s1 s1' : St) : Prop where
  ag : Ag N s1 s1'
  l : Touch N s s1
  r : Touch N s' s1'
theorem Both.refl {N : List Tmp} {s s' : St} (h : Ag N s s') : Both N s s' s s' := ⟨h, .refl _ _, .refl _ _⟩
theorem Both.trans {N : List Tmp} {s s' s1 s1' s2 s2' : St} (h : Both N s s' s1 s1') (k : Both N s1 s1' s2 s2') : Both N s s' s2 s2' := ⟨k.ag, h.l.trans k.l, h.r.trans k.r⟩
theorem Both.setT {N : List Tmp} {s s' : St} (h : Ag N s s') {t : Tmp} (ht : t ∈ N) {v : D} (hv : Red (s.t.getD t Zaw) v) : Both N s s' { s with t := s.t.set t v } { s' with t := s'.t.set t v } := by
  refine ⟨⟨h.h, h.d, h.r, by simp [h.t.1], fun u hu => ?_⟩, Touch.setT ht hv _ _ _, Touch.setT ht (by rw [← h.t.get ht]; exact hv) _ _ _⟩
  by_cases e : t = u
  · subst e; simp [List.getElem?_set, h.t.1]
  · simp only; rw [List.getElem?_set_ne e, List.getElem?_set_ne e]; exact h.t.2 u hu
theorem tk_ag {N : List Tmp} {s s' : St} (h : Ag N s s') {x : Operand} (hx : InN N x) {d : D} {s1 : St} (he : tk s x = some (d, s1)) : ∃ s1', tk s' x = some (d, s1') ∧ Both N s s' s1 s1' := by
  cases x with
  | tmp t =>
    have e := h.t.get (t := t) hx
    simp only [tk] at he ⊢
    rw [← e]
    split at he
    · rename_i ho
      simp only [Option.some.injEq, Prod.mk.injEq] at he
      obtain ⟨rfl, rfl⟩ := he
      exact ⟨_, by rw [if_pos ho], Both.setT h hx (red_leftT _)⟩
    · rename_i ho
      simp only [Option.some.injEq, Prod.mk.injEq] at he
      obtain ⟨rfl, rfl⟩ := he
      exact ⟨_, by rw [if_neg ho], .refl h⟩
  | const v =>
    simp only [tk, rd, Option.map_eq_some_iff, Prod.mk.injEq] at he ⊢
    obtain ⟨a, ha, rfl, rfl⟩ := he
    exact ⟨s', ⟨a, ha, rfl, rfl⟩, .refl h⟩
  | func f =>
    simp only [tk, rd, Option.map_eq_some_iff, Prod.mk.injEq] at he ⊢
    obtain ⟨a, ha, rfl, rfl⟩ := he
    exact ⟨s', ⟨a, ha, rfl, rfl⟩, .refl h⟩
  | global g => simp [tk, rd] at he
theorem sh_ag {N : List Tmp} {s s' : St} (h : Ag N s s') {x : Operand} (hx : InN N x) {d : D} {s1 : St} (he : sh s x = some (d, s1)) : ∃ s1', sh s' x = some (d, s1') ∧ Both N s s' s1 s1' := by
  cases x with
  | tmp t =>
    have e := h.t.get (t := t) hx
    simp only [sh] at he ⊢
    rw [← e]
    split at he
    · rename_i ho
      split at he
      · simp at he
      · rename_i hnt
        simp only [Option.some.injEq, Prod.mk.injEq] at he
        obtain ⟨rfl, rfl⟩ := he
        have hn : notTup (s.t.getD t Zaw) = true := by
          cases hd : s.t.getD t Zaw <;> simp_all [notTup]
        refine ⟨_, by rw [if_pos ho], Both.setT h hx (red_kep _ hn)⟩
    · rename_i ho
      simp only [Option.some.injEq, Prod.mk.injEq] at he
      obtain ⟨rfl, rfl⟩ := he
      exact ⟨_, by rw [if_neg ho], .refl h⟩
  | const v =>
    simp only [sh, rd, Option.map_eq_some_iff, Prod.mk.injEq] at he ⊢
    obtain ⟨a, ha, rfl, rfl⟩ := he
    exact ⟨s', ⟨a, ha, rfl, rfl⟩, .refl h⟩
  | func f =>
    simp only [sh, rd, Option.map_eq_some_iff, Prod.mk.injEq] at he ⊢
    obtain ⟨a, ha, rfl, rfl⟩ := he
    exact ⟨s', ⟨a, ha, rfl, rfl⟩, .refl h⟩
  | global g => simp [sh, rd] at he
theorem tks_ag {N : List Tmp} : ∀ (xs : List Operand) {s s' : St} (_ : Ag N s s') (_ : ∀ x ∈ xs, InN N x) {ds : List D} {s1 : St} (_ : tks s xs = some (ds, s1)), ∃ s1', tks s' xs = some (ds, s1') ∧ Both N s s' s1 s1'
  | [], s, s', h, _, ds, s1, he => by simp [tks] at he ⊢; obtain ⟨rfl, rfl⟩ := he; exact ⟨s', ⟨rfl, rfl⟩, .refl h⟩
  | x :: xs, s, s', h, hx, ds, s1, he => by
    simp only [tks] at he ⊢
    split at he
    · rename_i d s2 h1
      obtain ⟨s2', k1, k2⟩ := tk_ag h (hx x (by simp)) h1
      split at he
      · rename_i ds' s3 h2
        obtain ⟨s3', k3, k4⟩ := tks_ag xs k2.ag (fun y hy => hx y (by simp [hy])) h2
        simp only [Option.some.injEq, Prod.mk.injEq] at he
        obtain ⟨rfl, rfl⟩ := he
        exact ⟨s3', by simp [k1, k3], k2.trans k4⟩
      · simp at he
    · simp at he
theorem shs_ag {N : List Tmp} : ∀ (xs : List Operand) {s s' : St} (_ : Ag N s s') (_ : ∀ x ∈ xs, InN N x) {ds : List D} {s1 : St} (_ : shs s xs = some (ds, s1)), ∃ s1', shs s' xs = some (ds, s1') ∧ Both N s s' s1 s1'
  | [], s, s', h, _, ds, s1, he => by simp [shs] at he ⊢; obtain ⟨rfl, rfl⟩ := he; exact ⟨s', ⟨rfl, rfl⟩, .refl h⟩
  | x :: xs, s, s', h, hx, ds, s1, he => by
    simp only [shs] at he ⊢
    split at he
    · rename_i d s2 h1
      obtain ⟨s2', k1, k2⟩ := sh_ag h (hx x (by simp)) h1
      split at he
      · rename_i ds' s3 h2
        obtain ⟨s3', k3, k4⟩ := shs_ag xs k2.ag (fun y hy => hx y (by simp [hy])) h2
        simp only [Option.some.injEq, Prod.mk.injEq] at he
        obtain ⟨rfl, rfl⟩ := he
        exact ⟨s3', by simp [k1, k3], k2.trans k4⟩
      · simp at he
    · simp at he
theorem Both.mem {N : List Tmp} {s s' s1 s1' : St} (k : Both N s s' s1 s1') (h : List O) : Both N s s' { s1 with h := h } { s1' with h := h } :=
  ⟨⟨rfl, k.ag.d, k.ag.r, k.ag.t⟩, k.l.mem _ _ _, k.r.mem _ _ _⟩
theorem heavy_ag {o : Oper} (hh : heavy o.op = true) {s s' s1 : St} {d : D} (h : Ag (opTs o.op) s s') (hx : exOp P [] o s = some (.val d, s1)) :
    ∃ s1', exOp P [] o s' = some (.val d, s1') ∧ Both (opTs o.op) s s' s1 s1' := by
  have hin : ∀ x ∈ o.op.operands.toList, InN (opTs o.op) x := fun x hx => Zu6 (fun t ht => ht) hx
  cases hop : o.op with
  | store t a x =>
    rw [hop] at h hin
    simp only [exOp, hop] at hx ⊢
    have ha := Zy3 h.t (hin a (by simp [Op.operands]))
    rw [ha]
    split at hx
    · rename_i ad dd s2 h1 h2
      obtain ⟨s2', k1, k2⟩ := tk_ag h (hin x (by simp [Op.operands])) h2
      simp only [h1, k1]
      simp only [Zwj] at hx ⊢
      cases hz : szOf P t with
      | none => simp [hz] at hx
      | some n =>
        simp only [hz] at hx ⊢
        split at hx
        · rename_i hc
          rw [if_pos hc]
          cases ad with
          | ob i off =>
            simp only at hx ⊢
            rw [← k2.ag.h]
            split at hx
            · rename_i cs hg
              split at hx
              · rename_i hl
                simp at hx
                obtain ⟨rfl, rfl⟩ := hx
                exact ⟨_, by rw [if_pos hl]; rfl, k2.mem _⟩
              · simp at hx
            · simp at hx
          | ro cs off => simp at hx
        · simp at hx
    · simp at hx
  | box t x =>
    rw [hop] at h hin
    simp only [exOp, hop] at hx ⊢
    split at hx
    · rename_i dd s2 h2
      obtain ⟨s2', k1, k2⟩ := tk_ag h (hin x (by simp [Op.operands])) h2
      simp only [k1]
      rw [← k2.ag.h]
      split at hx
      · rename_i hn
        simp at hx
        obtain ⟨rfl, rfl⟩ := hx
        exact ⟨_, by rw [if_pos hn], k2.mem _⟩
      · simp at hx
    · simp at hx
  | alloc t =>
    rw [hop] at h
    simp only [exOp, hop] at hx ⊢
    rw [← h.h]
    split at hx
    · rename_i z hz
      split at hx
      · rename_i hn
        simp at hx
        obtain ⟨rfl, rfl⟩ := hx
        exact ⟨_, by rw [if_pos hn], (Both.refl h).mem _⟩
      · simp at hx
    · simp at hx
  | makeMap t r =>
    rw [hop] at h
    cases r with
    | none =>
      simp only [exOp, hop] at hx ⊢
      rw [← h.h]
      simp at hx
      obtain ⟨rfl, rfl⟩ := hx
      exact ⟨_, rfl, (Both.refl h).mem _⟩
    | some r => simp [exOp, hop] at hx
  | mapUpdate t m k x =>
    rw [hop] at h hin
    simp only [exOp, hop] at hx ⊢
    rw [Zy3 h.t (hin m (by simp [Op.operands])), Zy3 h.t (hin k (by simp [Op.operands]))]
    split at hx
    · rename_i kt et i kk v s2 h1 h2 h3 h4
      obtain ⟨s2', k1, k2⟩ := sh_ag h (hin x (by simp [Op.operands])) h4
      simp only [h1, h2, h3, k1]
      split at hx
      · rename_i hc
        rw [if_pos hc, ← k2.ag.h]
        split at hx
        · rename_i es he
          rcases hs : setD kk v es with _ | es'
          · simp [hs] at hx
          · simp [hs] at hx
            obtain ⟨rfl, rfl⟩ := hx
            exact ⟨_, rfl, k2.mem _⟩
        · simp at hx
      · simp at hx
    · simp at hx
  | insert t m k x =>
    rw [hop] at h hin
    simp only [exOp, hop] at hx ⊢
    rw [Zy3 h.t (hin m (by simp [Op.operands])), Zy3 h.t (hin k (by simp [Op.operands]))]
    split at hx
    · rename_i kt et i kk v s2 h1 h2 h3 h4
      obtain ⟨s2', k1, k2⟩ := sh_ag h (hin x (by simp [Op.operands])) h4
      simp only [h1, h2, h3, k1]
      split at hx
      · rename_i hc
        rw [if_pos hc, ← k2.ag.h]
        split at hx
        · rename_i es he
          rcases hs : setD kk v es with _ | es'
          · simp [hs] at hx
          · simp [hs] at hx
            obtain ⟨rfl, rfl⟩ := hx
            exact ⟨_, rfl, k2.mem _⟩
        · simp at hx
      · simp at hx
    · simp at hx
  | assign x =>
    rw [hop] at h hin
    simp only [exOp, hop] at hx ⊢
    rcases h2 : tk s x with _ | ⟨dd, s2⟩
    · simp [h2] at hx
    · obtain ⟨s2', k1, k2⟩ := tk_ag h (hin x (by simp [Op.operands])) h2
      simp [h2] at hx
      obtain ⟨rfl, rfl⟩ := hx
      exact ⟨_, by simp [k1], k2⟩
  | defer c =>
    rw [hop] at h hin
    simp only [exOp, hop] at hx ⊢
    cases hc : c.callee with
    | value f =>
      simp only [hc] at hx ⊢
      rw [← h.r]
      rw [Zy3 h.t (hin f (by simp [Op.operands, Call.operands, hc]))]
      split at hx
      · simp at hx
      · rename_i hnr
        split at hx
        · rename_i g first cap ds s2 h1 h2
          obtain ⟨s2', k1, k2⟩ := shs_ag _ h (fun y hy => hin y (by simp only [Op.operands, Call.operands]; simp at hy ⊢; exact .inr hy)) h2
          simp only [h1, k1]
          split at hx
          · simp at hx
          · rename_i ho
            simp at hx
            obtain ⟨rfl, rfl⟩ := hx
            rw [if_neg ho]
            refine ⟨_, rfl, ⟨k2.ag.h, ?_, k2.ag.r, k2.ag.t⟩, k2.l.mem _ _ _, k2.r.mem _ _ _⟩
            simp [k2.ag.d]
        · simp at hx
    | invoke r m => simp [hc] at hx
    | builtin b => simp [hc] at hx
  | panic x => simp only [exOp, hop] at hx; split at hx <;> simp at hx
  | call c =>
    rw [hop] at h hin hh
    simp only [exOp, hop] at hx ⊢
    cases hc : c.callee with
    | builtin b =>
      simp only [hc] at hx ⊢
      have hargs : ∀ y ∈ c.args.toList, InN (opTs (.call c)) y := fun y hy => hin y (by simp only [Op.operands, Call.operands, hc]; simp at hy ⊢; exact hy)
      unfold Zge at hx ⊢
      split at hx
      · simp [heavy, hc] at hh
      · rename_i x y hl
        rw [hl] at hargs
        split at hx
        · rename_i dd s2 t ty h1 h2 h3
          obtain ⟨s2', k1, k2⟩ := tk_ag h (hargs x (by simp)) h1
          simp only [k1]
          split at hx
          · rename_i str hst
            split at hx
            · rename_i v s3 h4
              obtain ⟨s3', k3, k4⟩ := sh_ag k2.ag (hargs y (by simp)) h4
              rcases ha : Zfz P t dd v str with _ | rr
              · simp [ha] at hx
              · simp [ha] at hx
                obtain ⟨rfl, rfl⟩ := hx
                refine ⟨s3', ?_, k2.trans k4⟩
                simp [h2, h3, hst, k3, ha]
            · simp at hx
          · simp at hx
        · simp at hx
      · simp [heavy, hc] at hh
      · simp [heavy, hc] at hh
      · split at hx <;> simp at hx
      · rw [← h.r]
        split at hx
        · rename_i dd hr
          simp at hx; obtain ⟨rfl, rfl⟩ := hx
          exact ⟨_, rfl, ⟨h.h, h.d, rfl, h.t⟩, (Touch.refl _ _).mem _ _ _, (Touch.refl _ _).mem _ _ _⟩
        · simp at hx; obtain ⟨rfl, rfl⟩ := hx
          exact ⟨_, rfl, .refl h⟩
        · simp at hx; obtain ⟨rfl, rfl⟩ := hx
          exact ⟨_, rfl, .refl h⟩
        · simp at hx
        · simp at hx
      · simp at hx
    | value f => simp [hc] at hx
    | invoke r m => simp [hc] at hx
  | _ => rw [hop] at hh; simp [heavy] at hh
theorem Zyu {o : Oper} {s s' s1 : St} {g : Tgt} {args : List D} (h : Ag (opTs o.op) s s') (hx : Zfy o s = .go g args s1) :
    ∃ s1', Zfy o s' = .go g args s1' ∧ Both (opTs o.op) s s' s1 s1' := by
  have hin : ∀ x ∈ o.op.operands.toList, InN (opTs o.op) x := fun x hx => Zu6 (fun t ht => ht) hx
  unfold Zfy at hx ⊢
  split at hx
  · rename_i c hop
    simp only [hop] at h hin ⊢
    split at hx
    · rename_i f hc
      have hargs : ∀ y ∈ c.args.toList, InN (opTs (.call c)) y := fun y hy => hin y (by simp only [Op.operands, Call.operands, hc]; simp at hy ⊢; exact .inr hy)
      rw [Zy3 h.t (hin f (by simp [Op.operands, Call.operands, hc]))]
      split at hx
      · rename_i g0 first cap ds s2 h1 h2
        obtain ⟨s2', k1, k2⟩ := tks_ag _ h hargs h2
        simp only [h1, k1]
        split at hx
        · rename_i hn
          simp only [Kind.go.injEq] at hx
          obtain ⟨rfl, rfl, rfl⟩ := hx
          exact ⟨s2', by rw [if_pos hn], k2⟩
        · simp at hx
      · rename_i l ds s2 h1 h2
        obtain ⟨s2', k1, k2⟩ := tks_ag _ h hargs h2
        simp only [h1, k1]
        simp only [Kind.go.injEq] at hx
        obtain ⟨rfl, rfl, rfl⟩ := hx
        exact ⟨s2', rfl, k2⟩
      · simp at hx
    · simp at hx
    · simp at hx
  · simp at hx
end Go.Abs
namespace Go.Abs
variable {P : Program}
def NO (s : St) : Operand → Prop
  | .tmp t => ownD (s.t.getD t Zaw) = false
  | _ => True
theorem tk_no {s : St} {x : Operand} (h : NO s x) : tk s x = (rd s x).map (·, s) := by
  cases x with
  | tmp t => simp only [NO] at h; simp only [tk, h, rd, Bool.false_eq_true, if_false, Ya2]
  | _ => rfl
theorem Zoi {s : St} {x : Operand} (h : NO s x) : sh s x = (rd s x).map (·, s) := by
  cases x with
  | tmp t => simp only [NO] at h; simp only [sh, h, rd, Bool.false_eq_true, if_false, Ya2]
  | _ => rfl
def rds (s : St) : List Operand → Option (List D)
  | [] => some []
  | x :: xs => match rd s x, rds s xs with
    | some d, some ds => some (d :: ds)
    | _, _ => none
theorem tks_no {s : St} : ∀ {xs : List Operand}, (∀ x ∈ xs, NO s x) → tks s xs = (rds s xs).map (·, s)
  | [], _ => rfl
  | x :: xs, h => by
    simp only [tks, tk_no (h x (by simp)), rds]
    cases rd s x with
    | none => rfl
    | some d =>
      simp only [Ya2, tks_no (xs := xs) (fun y hy => h y (by simp [hy]))]
      cases rds s xs <;> rfl
theorem Zs7 {s : St} : ∀ {xs : List Operand}, (∀ x ∈ xs, NO s x) → shs s xs = (rds s xs).map (·, s)
  | [], _ => rfl
  | x :: xs, h => by
    simp only [shs, Zoi (h x (by simp)), rds]
    cases rd s x with
    | none => rfl
    | some d =>
      simp only [Ya2, Zs7 (xs := xs) (fun y hy => h y (by simp [hy]))]
      cases rds s xs <;> rfl
def Eqs (N : List Tmp) (s s' : St) : Prop := ∀ t ∈ N, s'.t.getD t Zaw = s.t.getD t Zaw
theorem Zhf {N : List Tmp} {s s' : St} (h : Eqs N s s') {x : Operand} (hx : InN N x) : rd s' x = rd s x := by
  cases x with
  | tmp t => simp only [rd, h t hx]
  | _ => rfl
theorem Znf {N : List Tmp} {s s' : St} (h : Eqs N s s') {x : Operand} (hx : InN N x) (k : NO s x) : NO s' x := by
  cases x with
  | tmp t => simp only [NO, h t hx]; exact k
  | _ => trivial
theorem Zsd {N : List Tmp} {s s' : St} (h : Eqs N s s') : ∀ {xs : List Operand}, (∀ x ∈ xs, InN N x) → rds s' xs = rds s xs
  | [], _ => rfl
  | x :: xs, hx => by simp only [rds, Zhf h (hx x (by simp)), Zsd h (xs := xs) (fun y hy => hx y (by simp [hy]))]
theorem Zvf {N : List Tmp} {s s' : St} (h : Eqs N s s') {x : Option Operand} (hx : ∀ y, x = some y → InN N y) : optO s' x = optO s x := by
  cases x with
  | none => rfl
  | some y => simp only [optO, Zhf h (hx y rfl)]
def Znk : Op → Bool
  | .move _ => true
  | .load _ _ => true
  | .extract _ _ => true
  | _ => false
theorem Zxg {o : Oper} (hh : heavy o.op = false) (hs : Znk o.op = false) {s s1 : St} {u : Out} (hno : ∀ x ∈ o.op.operands.toList, NO s x) (hx : exOp P [] o s = some (u, s1)) :
    s1 = s ∧ ∀ s', Eqs (opTs o.op) s s' → (s'.h = s.h ∨ Zmg o.op = false) → exOp P [] o s' = some (u, s') := by
  have hin : ∀ x ∈ o.op.operands.toList, InN (opTs o.op) x := fun x hx => Zu6 (fun t ht => ht) hx
  cases hop : o.op with
  | pick c a b =>
    rw [hop] at hno hin
    simp only [exOp, hop] at hx ⊢
    split at hx
    · rename_i t hc
      have ha := hno (if t then a else b) (by cases t <;> simp [Op.operands])
      rw [Zoi ha] at hx
      rcases hr : rd s (if t then a else b) with _ | d
      · simp [hr] at hx
      · simp [hr] at hx
        obtain ⟨rfl, rfl⟩ := hx
        refine ⟨rfl, fun s' he _ => ?_⟩
        have hi := hin (if t then a else b) (by cases t <;> simp [Op.operands])
        rw [Zhf he (hin c (by simp [Op.operands])), hc]
        simp only
        rw [Zoi (Znf he hi ha), Zhf he hi, hr]; rfl
    · simp at hx
  | build t ps =>
    rw [hop] at hno hin
    simp only [exOp, hop] at hx ⊢
    have hno' : ∀ x ∈ ps.toList.map (·.2), NO s x := fun x hx => hno x (by simpa [Op.operands] using hx)
    have hin' : ∀ x ∈ ps.toList.map (·.2), InN (opTs (.build t ps)) x := fun x hx => hin x (by simpa [Op.operands] using hx)
    rw [tks_no hno'] at hx
    rcases hr : rds s (ps.toList.map (·.2)) with _ | ds
    · simp [hr] at hx
    · simp only [hr, Ya2] at hx
      rcases hb : Zm7 P t ((ps.toList.map (·.1)).zip ds) with _ | dd
      · simp [hb] at hx
      · simp [hb] at hx
        obtain ⟨rfl, rfl⟩ := hx
        refine ⟨rfl, fun s' he _ => ?_⟩
        rw [tks_no (fun x hx => Znf he (hin' x hx) (hno' x hx)), Zsd he hin', hr]
        simp [hb]
  | buildSlice t n ps =>
    rw [hop] at hno hin
    simp only [exOp, hop] at hx ⊢
    have hno' : ∀ x ∈ ps.toList.map (·.2), NO s x := fun x hx => hno x (by simpa [Op.operands] using hx)
    have hin' : ∀ x ∈ ps.toList.map (·.2), InN (opTs (.buildSlice t n ps)) x := fun x hx => hin x (by simpa [Op.operands] using hx)
    rw [Zs7 hno'] at hx
    rcases hr : rds s (ps.toList.map (·.2)) with _ | ds
    · simp [hr] at hx
    · simp only [hr, Ya2] at hx
      rcases hb : Zef P t n ((ps.toList.map (·.1)).zip ds) with _ | dd
      · simp [hb] at hx
      · simp [hb] at hx
        obtain ⟨rfl, rfl⟩ := hx
        refine ⟨rfl, fun s' he _ => ?_⟩
        rw [Zs7 (fun x hx => Znf he (hin' x hx) (hno' x hx)), Zsd he hin', hr]
        simp [hb]
  | nilCheck x =>
    rw [hop] at hno hin
    simp only [exOp, hop] at hx ⊢
    refine ⟨?_, fun s' he _ => ?_⟩
    · split at hx
      · split at hx <;> simp at hx <;> exact hx.2.symm
      · simp at hx
    · rw [Zhf he (hin x (by simp [Op.operands]))]
      split at hx
      · rename_i hr
        try simp only
        split at hx <;> simp_all <;> (obtain ⟨a, h1, h2, _⟩ := hx; exact ⟨a, h1, h2⟩)
      · simp at hx
  | binOp op t x y yt =>
    rw [hop] at hno hin
    simp only [exOp, hop] at hx ⊢
    refine ⟨?_, fun s' he _ => ?_⟩
    · split at hx
      · simp at hx; obtain ⟨_, _, _, e⟩ := hx; exact e.symm
      · simp at hx
    · rw [Zhf he (hin x (by simp [Op.operands])), Zhf he (hin y (by simp [Op.operands]))]
      split at hx <;> simp_all <;> (obtain ⟨a, h1, h2, _⟩ := hx; exact ⟨a, h1, h2⟩)
  | unOp op t x =>
    rw [hop] at hno hin
    simp only [exOp, hop] at hx ⊢
    refine ⟨?_, fun s' he _ => ?_⟩
    · split at hx
      · simp at hx; obtain ⟨_, _, _, e⟩ := hx; exact e.symm
      · simp at hx
    · rw [Zhf he (hin x (by simp [Op.operands]))]
      split at hx <;> simp_all <;> (obtain ⟨a, h1, h2, _⟩ := hx; exact ⟨a, h1, h2⟩)
  | convert src dst x =>
    rw [hop] at hno hin
    simp only [exOp, hop] at hx ⊢
    have hn := hno x (by simp [Op.operands])
    have hi := hin x (by simp [Op.operands])
    rw [Zoi hn] at hx
    rcases hr : rd s x with _ | a
    · simp [hr] at hx
    · simp [hr] at hx
      obtain ⟨a1, h1, rfl, rfl⟩ := hx
      exact ⟨rfl, fun s' he _ => by rw [Zoi (Znf he hi hn), Zhf he hi, hr]; simp [h1]⟩
  | makeInterface t x =>
    rw [hop] at hno hin
    simp only [exOp, hop] at hx ⊢
    have hn := hno x (by simp [Op.operands])
    have hi := hin x (by simp [Op.operands])
    rw [Zoi hn] at hx
    rcases hr : rd s x with _ | a
    · simp [hr] at hx
    · simp only [hr, Ya2] at hx
      refine ⟨?_, fun s' he _ => ?_⟩
      · split at hx
        · rename_i h1 h2
          simp only [Option.some.injEq, Prod.mk.injEq] at h1
          obtain ⟨rfl, rfl⟩ := h1
          split at hx
          · simp at hx
          · split at hx <;> simp at hx <;> exact hx.2.symm
        · simp at hx
      · rw [Zoi (Znf he hi hn), Zhf he hi, hr]
        simp only [Ya2]
        split at hx
        · rename_i h1 h2
          simp only [Option.some.injEq, Prod.mk.injEq] at h1
          obtain ⟨rfl, rfl⟩ := h1
          simp only [h2]
          split at hx
          · simp at hx
          · rename_i hnf
            rw [if_neg hnf]
            split at hx <;> simp at hx <;> simp [hx.1]
        · simp at hx
  | makeFunc fn first cap =>
    rw [hop] at hno hin
    simp only [exOp, hop] at hx ⊢
    have hno1 : ∀ x ∈ first.toList, NO s x := fun x hx => hno x (by simp only [Op.operands]; simp at hx ⊢; exact .inl hx)
    have hin1 : ∀ x ∈ first.toList, InN (opTs (.makeFunc fn first cap)) x := fun x hx => hin x (by simp only [Op.operands]; simp at hx ⊢; exact .inl hx)
    have hno2 : ∀ x ∈ cap.toList, NO s x := fun x hx => hno x (by simp only [Op.operands]; simp at hx ⊢; exact .inr hx)
    have hin2 : ∀ x ∈ cap.toList, InN (opTs (.makeFunc fn first cap)) x := fun x hx => hin x (by simp only [Op.operands]; simp at hx ⊢; exact .inr hx)
    rw [Zs7 hno1] at hx
    rcases hr : rds s first.toList with _ | ds
    · simp [hr] at hx
    · simp only [hr, Ya2, Zs7 hno2] at hx
      rcases hr2 : rds s cap.toList with _ | cs
      · simp [hr2] at hx
      · simp only [hr2, Ya2] at hx
        cases fn with
        | func f =>
          simp at hx
          obtain ⟨rfl, rfl⟩ := hx
          refine ⟨rfl, fun s' he _ => ?_⟩
          rw [Zs7 (fun x hx => Znf he (hin1 x hx) (hno1 x hx)), Zsd he hin1, hr]
          simp only [Ya2]
          rw [Zs7 (fun x hx => Znf he (hin2 x hx) (hno2 x hx)), Zsd he hin2, hr2]
          rfl
        | _ => simp at hx
  | makeSlice t l c =>
    rw [hop] at hno hin
    simp only [exOp, hop] at hx ⊢
    refine ⟨?_, fun s' he _ => ?_⟩
    · split at hx
      · simp at hx; obtain ⟨_, _, _, e⟩ := hx; exact e.symm
      · simp at hx
    · rw [Zhf he (hin l (by simp [Op.operands])), Zhf he (hin c (by simp [Op.operands]))]
      split at hx <;> simp_all <;> (obtain ⟨a, h1, h2, _⟩ := hx; exact ⟨a, h1, h2⟩)
  | slice t x lo hi mx =>
    rw [hop] at hno hin
    simp only [exOp, hop] at hx ⊢
    have hn := hno x (by simp [Op.operands])
    have hi' := hin x (by simp [Op.operands])
    have i1 : ∀ y, lo = some y → InN (opTs (.slice t x lo hi mx)) y := fun y hy => hin y (by subst hy; simp [Op.operands])
    have i2 : ∀ y, hi = some y → InN (opTs (.slice t x lo hi mx)) y := fun y hy => hin y (by subst hy; simp [Op.operands])
    have i3 : ∀ y, mx = some y → InN (opTs (.slice t x lo hi mx)) y := fun y hy => hin y (by subst hy; simp [Op.operands])
    rw [Zoi hn] at hx
    rcases hr : rd s x with _ | a
    · simp [hr] at hx
    · simp only [hr, Ya2] at hx
      split at hx
      · rename_i l' h' m' h1 h2 h3
        simp at hx
        obtain ⟨a1, h4, rfl, rfl⟩ := hx
        refine ⟨rfl, fun s' he _ => ?_⟩
        rw [Zoi (Znf he hi' hn), Zhf he hi', hr]
        simp only [Ya2]
        rw [Zvf he i1, Zvf he i2, Zvf he i3, h1, h2, h3]
        simp [h4]
      · simp at hx
  | fieldAddr t x f =>
    rw [hop] at hno hin
    simp only [exOp, hop] at hx ⊢
    refine ⟨?_, fun s' he _ => ?_⟩
    · split at hx
      · simp at hx; obtain ⟨_, _, _, e⟩ := hx; exact e.symm
      · simp at hx
    · rw [Zhf he (hin x (by simp [Op.operands]))]
      split at hx <;> simp_all <;> (obtain ⟨a, h1, h2, _⟩ := hx; exact ⟨a, h1, h2⟩)
  | field t x f =>
    rw [hop] at hno hin
    simp only [exOp, hop] at hx ⊢
    have hn := hno x (by simp [Op.operands])
    have hi := hin x (by simp [Op.operands])
    rw [Zoi hn] at hx
    rcases hr : rd s x with _ | a
    · simp [hr] at hx
    · simp only [hr, Ya2] at hx
      split at hx
      · rename_i fs cs s2 h1 h2
        simp only [Option.some.injEq, Prod.mk.injEq] at h2
        obtain ⟨rfl, rfl⟩ := h2
        split at hx
        · rename_i fi h3
          simp at hx
          obtain ⟨a1, h4, rfl, rfl⟩ := hx
          refine ⟨rfl, fun s' he _ => ?_⟩
          rw [Zoi (Znf he hi hn), Zhf he hi, hr, h1]
          simp [h3, h4]
        · simp at hx
      · simp at hx
  | indexAddr t x ix =>
    rw [hop] at hno hin
    simp only [exOp, hop] at hx ⊢
    have hn := hno x (by simp [Op.operands])
    have hi := hin x (by simp [Op.operands])
    rw [Zoi hn] at hx
    rcases hr : rd s x with _ | a
    · simp [hr] at hx
    · simp only [hr, Ya2] at hx
      split at hx
      · rename_i i h1
        simp at hx
        obtain ⟨a1, h4, rfl, rfl⟩ := hx
        refine ⟨rfl, fun s' he _ => ?_⟩
        rw [Zoi (Znf he hi hn), Zhf he hi, hr]
        simp only [Ya2]
        rw [Zhf he (hin ix (by simp [Op.operands])), h1]
        simp [h4]
      · simp at hx
  | index t x ix =>
    rw [hop] at hno hin
    simp only [exOp, hop] at hx ⊢
    have hn := hno x (by simp [Op.operands])
    have hi := hin x (by simp [Op.operands])
    rw [Zoi hn] at hx
    rcases hr : rd s x with _ | a
    · simp [hr] at hx
    · simp only [hr, Ya2] at hx
      split at hx
      · rename_i i h1
        simp at hx
        obtain ⟨a1, h4, rfl, rfl⟩ := hx
        refine ⟨rfl, fun s' he _ => ?_⟩
        rw [Zoi (Znf he hi hn), Zhf he hi, hr]
        simp only [Ya2]
        rw [Zhf he (hin ix (by simp [Op.operands])), h1]
        simp [h4]
      · simp at hx
  | lookup t x ix ok =>
    rw [hop] at hno hin
    simp only [exOp, hop] at hx ⊢
    refine ⟨?_, fun s' he hm => ?_⟩
    · split at hx
      · split at hx
        · split at hx
          · simp at hx; exact hx.2.symm
          · simp at hx; obtain ⟨_, _, _, e⟩ := hx; exact e.symm
          · simp at hx
        · simp at hx
      · simp at hx
    · have hm' : s'.h = s.h := by rcases hm with hm | hm; exact hm; simp [Zmg] at hm
      rw [Zhf he (hin x (by simp [Op.operands])), Zhf he (hin ix (by simp [Op.operands])), hm']
      split at hx
      · rename_i kt et m k h1 h2 h3
        try simp only [h1, h2, h3]
        split at hx
        · rename_i hk
          rw [if_pos hk]
          split at hx <;> simp_all <;> (obtain ⟨a, h1, h2, _⟩ := hx; exact ⟨a, h1, h2⟩)
        · simp at hx
      · simp at hx
  | typeAssert x _ t ok =>
    rw [hop] at hno hin
    simp only [exOp, hop] at hx ⊢
    refine ⟨?_, fun s' he hm => ?_⟩
    · split at hx
      · split at hx
        · simp at hx
        · split at hx
          · split at hx
            · simp at hx; exact hx.2.symm
            · split at hx
              · simp at hx; obtain ⟨_, _, _, e⟩ := hx; exact e.symm
              · simp at hx
          · split at hx
            · simp at hx; obtain ⟨_, _, _, e⟩ := hx; exact e.symm
            · simp at hx
          · simp at hx
      · simp at hx
    · rw [Zhf he (hin x (by simp [Op.operands]))]
      split at hx
      · rename_i d u h1 h2
        try simp only [h1, h2]
        split at hx
        · simp at hx
        · rename_i hi
          rw [if_neg hi]
          split at hx
          · split at hx
            · rename_i ht
              try simp only
              rw [if_pos ht]; simp at hx ⊢; exact hx.1
            · rename_i ht
              try simp only
              rw [if_neg ht]
              split at hx
              · rename_i hk
                rw [if_pos hk]; simp at hx ⊢; obtain ⟨a, e1, e2, _⟩ := hx; exact ⟨a, e1, e2⟩
              · simp at hx
          · split at hx
            · rename_i hk
              try simp only
              rw [if_pos hk]; simp at hx ⊢; obtain ⟨a, e1, e2, _⟩ := hx; exact ⟨a, e1, e2⟩
            · simp at hx
          · simp at hx
      · simp at hx
  | call c =>
    rw [hop] at hno hin hh
    simp only [exOp, hop] at hx ⊢
    cases hc : c.callee with
    | builtin b =>
      simp only [hc] at hx ⊢
      have hargs : ∀ y ∈ c.args.toList, InN (opTs (.call c)) y := fun y hy => hin y (by simp only [Op.operands, Call.operands, hc]; simp at hy ⊢; exact hy)
      unfold Zge at hx ⊢
      split at hx
      · rename_i x hl
        rw [hl] at hargs
        refine ⟨?_, fun s' he hm => ?_⟩
        · split at hx
          · rename_i dd tt _ _
            rcases hl : len0 P tt dd s.h with _ | n
            · simp [hl] at hx
            · simp [hl] at hx; exact hx.2.symm
          · simp at hx
        · have hm' : s'.h = s.h := by rcases hm with hm | hm; exact hm; simp [Zmg, hc] at hm
          rw [Zhf he (hargs x (by simp)), hm']
          split at hx
          · rename_i dd tt _ _
            rcases hl : len0 P tt dd s.h with _ | n
            · simp [hl] at hx
            · simp [hl] at hx; simp [hx.1]
          · simp at hx
      · simp [heavy, hc] at hh
      · rename_i x y hl
        rw [hl] at hargs
        refine ⟨?_, fun s' he hm => ?_⟩
        · split at hx
          · simp at hx; obtain ⟨_, _, _, e⟩ := hx; exact e.symm
          · simp at hx
        · rw [Zhf he (hargs x (by simp)), Zhf he (hargs y (by simp))]
          split at hx <;> simp_all <;> (obtain ⟨a, h1, h2, _⟩ := hx; exact ⟨a, h1, h2⟩)
      · rename_i x y hl
        rw [hl] at hargs
        refine ⟨?_, fun s' he hm => ?_⟩
        · split at hx
          · simp at hx; obtain ⟨_, _, _, e⟩ := hx; exact e.symm
          · simp at hx
        · rw [Zhf he (hargs x (by simp)), Zhf he (hargs y (by simp))]
          split at hx <;> simp_all <;> (obtain ⟨a, h1, h2, _⟩ := hx; exact ⟨a, h1, h2⟩)
      · simp [heavy, hc] at hh
      · simp [heavy, hc] at hh
      · simp at hx
    | value f => simp [hc] at hx
    | invoke r m => simp [hc] at hx
  | move x => rw [hop] at hs; simp [Znk] at hs
  | load t a => rw [hop] at hs; simp [Znk] at hs
  | extract x i => rw [hop] at hs; simp [Znk] at hs
  | store t a x => rw [hop] at hh; simp [heavy] at hh
  | box t x => rw [hop] at hh; simp [heavy] at hh
  | alloc t => rw [hop] at hh; simp [heavy] at hh
  | makeMap t r => rw [hop] at hh; simp [heavy] at hh
  | mapUpdate t m k x => rw [hop] at hh; simp [heavy] at hh
  | insert t m k x => rw [hop] at hh; simp [heavy] at hh
  | assign x => rw [hop] at hh; simp [heavy] at hh
  | defer c => rw [hop] at hh; simp [heavy] at hh
  | panic x => rw [hop] at hh; simp [heavy] at hh
  | _ => simp [exOp, hop] at hx
end Go.Abs
