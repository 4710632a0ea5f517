/-
  REGIONS WHOSE ORDER IS OPEN: what a light operation tells. REGIONS WHOSE ORDER IS OPEN: what orders there are. THE OPERATIONS, ONE BY ONE: parts, indices, slices, interfaces, functions, maps made, length. No condition.
-/
import Derived.Test.YtkimilghfbgjmaaQ01
import Derived.Test.YtkimilghfbgjmaaQ04
import Derived.Orders

namespace Go.Abs
variable {P : Program}
theorem kep_nonexc {d : D} (h : excD d = false) (hn : notTup d = true) : kep d = d := by
  have k0 : ∀ d, exc0 d = false → kep0 d = d := by
    intro d hd; cases d <;> simp_all [exc0, kep0]
  cases d with
  | agg cs =>
    have hd : ∀ x ∈ cs, exc0 x = false := by simpa [excD] using h
    simp only [kep]; congr 1
    exact (List.map_congr_left (fun x hx => k0 x (hd x hx))).trans (List.map_id _)
  | tup vs => simp [notTup] at hn
  | _ => exact k0 _ (by simpa [excD] using h)
theorem Zwm {d : D} (h : ownD d = false) (hn : notTup d = true) : shr d = d := by
  have k0 : ∀ d, own0 d = false → shr0 d = d := by
    intro d hd; cases d <;> simp_all [own0, shr0]
  cases d with
  | agg cs =>
    have hd : ∀ x ∈ cs, own0 x = false := by simpa [ownD, ownA] using h
    simp only [shr]; congr 1
    exact (List.map_congr_left (fun x hx => k0 x (hd x hx))).trans (List.map_id _)
  | tup vs => simp [notTup] at hn
  | _ => exact k0 _ (by simpa [ownD, ownA] using h)
theorem Zm9 (l : List D) (t : Nat) : l.set t (l.getD t Zaw) = l := by
  apply List.ext_getElem?; intro k
  by_cases e : t = k
  · subst e
    rw [List.getElem?_set]
    by_cases hl : t < l.length
    · simp [hl]
    · simp [hl]
  · rw [List.getElem?_set_ne e]
theorem sh_nonexc {s : St} {t : Tmp} {d : D} (h : cpD (s.t.getD t Zaw) = some d) : sh s (.tmp t) = some (d, s) := by
  have hset := Zm9 s.t t
  have hsh : sh s (.tmp t) = (if ownD (s.t.getD t Zaw) then (match s.t.getD t Zaw with | .tup _ => none | _ => some (shr (s.t.getD t Zaw), { s with t := s.t.set t (kep (s.t.getD t Zaw)) })) else some (s.t.getD t Zaw, s)) := rfl
  rw [hsh]
  clear hsh
  generalize s.t.getD t Zaw = v at h hset
  unfold cpD at h
  split at h
  · simp at h
  · rename_i he
    have he' : excD v = false := by simpa using he
    cases ho : ownD v with
    | false =>
      rw [if_neg (by simp)]
      split at h
      · simp at h; rw [h]
      · rename_i hnt
        simp only [Option.some.injEq] at h
        rw [Zwm ho (by cases v <;> simp_all [notTup])] at h
        rw [h]
    | true =>
      rw [if_pos rfl]
      split at h
      · rename_i vs
        simp only [excD] at he'
        rw [ho] at he'; simp at he'
      · rename_i hnt
        have hn : notTup v = true := by cases v <;> simp_all [notTup]
        simp only [Option.some.injEq] at h
        rw [kep_nonexc he' hn, hset, h]
        cases v <;> simp_all [notTup]
theorem Zyt {s : St} {t : TypeId} {ad : Ad} {d : D} (hx : (match ad, szOf P t, aggT P t with
      | .ro _ _, _, _ => (Zn3 P s t ad false).map (·.1)
      | .ob i off, some n, some ag => match Zbn s.h i with
        | some cs => if off + n ≤ cs.length then
            match ag with
            | true => let ds := (cs.drop off).take n; if ds.any exc0 then none else some (.agg (ds.map shr0))
            | false => match cs[off]? with
              | some d => if exc0 d then none else some (shr0 d)
              | none => none
          else none
        | none => none
      | _, _, _ => none) = some d) : Zn3 P s t ad false = some (d, s) := by
  split at hx
  · rename_i cs off
    rcases hl : Zn3 P s t (.ro cs off) false with _ | ⟨d1, s1⟩
    · simp [hl] at hx
    · simp [hl] at hx
      subst hx
      simp only [Zn3] at hl
      split at hl
      · split at hl
        · split at hl
          · simp at hl; obtain ⟨rfl, rfl⟩ := hl; rfl
          · split at hl
            · simp at hl; obtain ⟨rfl, rfl⟩ := hl; rfl
            · simp at hl
        · simp at hl
      · simp at hl
  · rename_i i off n ag hs ha
    simp only [Zn3, hs, ha]
    split at hx
    · rename_i cs hg
      have hi := Zio hg
      split at hx
      · rename_i hn
        simp only [hg]
        rw [if_pos hn]
        split at hx
        · simp only at hx ⊢
          split at hx
          · simp at hx
          · rename_i he
            simp only [Option.some.injEq] at hx
            subst hx
            split
            · have hk : ((cs.drop off).take n).map kep0 = (cs.drop off).take n := by
                have hall : ∀ x ∈ (cs.drop off).take n, exc0 x = false := by simpa using he
                refine (List.map_congr_left (fun x hx => ?_)).trans (List.map_id _)
                have := hall x hx
                cases x <;> simp_all [exc0, kep0]
              simp only [Bool.false_eq_true, if_false]
              rw [hk, Zg2, Zli _ _ _ hn, Zrk hi]
            · rename_i ho
              rw [(Zn2 (show ((cs.drop off).take n).any own0 = false by simpa using ho)).2.2]
        · simp only
          split at hx
          · rename_i dd hd
            split at hx
            · simp at hx
            · rename_i he
              simp only [Option.some.injEq] at hx
              subst hx
              simp only [hd]
              have he' : exc0 dd = false := by simpa using he
              split
              · have hk : kep0 dd = dd := by cases dd <;> simp_all [exc0, kep0]
                simp only [Bool.false_eq_true, if_false]
                have e1 : Zfg cs off [dd] = cs := by
                  have : (cs.drop off).take 1 = [dd] := by
                    have hlt := (List.getElem?_eq_some_iff.1 hd).1
                    rw [List.drop_eq_getElem_cons hlt, List.take_succ_cons, List.take_zero, (List.getElem?_eq_some_iff.1 hd).2]
                  have h1 : off + 1 ≤ cs.length := (List.getElem?_eq_some_iff.1 hd).1
                  have := Zli cs off 1 h1
                  rwa [‹(cs.drop off).take 1 = [dd]›] at this
                rw [hk, e1, Zrk hi]
              · rename_i ho
                have hk : shr0 dd = dd := by cases dd <;> simp_all [own0, shr0]
                rw [hk]
          · simp at hx
      · simp at hx
    · simp at hx
  · simp at hx
theorem light_op {o : Oper} {s : St} {d : D} (hx : Zee P o s = some d) : exOp P [] o s = some (.val d, s) := by
  unfold Zee at hx
  split at hx
  · rename_i t hop
    have : sh s (.tmp t) = some (d, s) := sh_nonexc hx
    have e1 : taken [] o.dst = false := by cases o.dst <;> rfl
    simp only [exOp, hop, e1, Bool.false_eq_true, if_false, this]
    rfl
  · rename_i t a hop
    have e1 : taken [] o.dst = false := by cases o.dst <;> rfl
    have e2 : back [] a = false := by cases a <;> rfl
    simp only [exOp, hop, e1, e2, Bool.or_false]
    split at hx
    · rename_i ad had
      rw [Zyt hx]
      rfl
    · simp at hx
  · rename_i x hnt hop
    have e1 : taken [] o.dst = false := by cases o.dst <;> rfl
    simp only [exOp, hop, e1, Bool.false_eq_true, if_false]
    rw [Zoi (by cases x with | tmp t => exact absurd rfl (hnt t) | _ => trivial), hx]
    rfl
  · rename_i x i hop
    simp only [exOp, hop]
    split at hx
    · rename_i vs hr
      split at hx
      · rename_i dd hd
        split at hx
        · simp at hx
        · rename_i ho
          simp only [Option.some.injEq] at hx
          subst hx
          cases x with
          | tmp t =>
            simp only [rd, Option.some.injEq] at hr
            have hlt : t < s.t.length := by
              rcases Nat.lt_or_ge t s.t.length with h | h
              · exact h
              · rw [List.getD_eq_getElem?_getD, List.getElem?_eq_none h] at hr
                simp only [Option.getD_none, Zaw, D.tup.injEq] at hr
                subst hr; simp at hd
            have hs : s.t[t]? = some (.tup vs) := by
              rw [List.getD_eq_getElem?_getD, List.getElem?_eq_getElem hlt] at hr
              rw [List.getElem?_eq_getElem hlt]; simpa using hr
            simp only [hs, hd]
            rw [if_neg ho]
          | const v =>
            exfalso
            simp only [rd] at hr
            rcases Zsp (w := default) (G := ⟨[], fun _ _ => False⟩) hr with ⟨_, _, h3⟩ | ⟨_, h3⟩
            · simp [notTup] at h3
            · simp only [Zaw, D.tup.injEq] at h3; subst h3; simp at hd
          | func f => simp [rd] at hr
          | global g => simp [rd] at hr
      · simp at hx
    · simp at hx
  · rename_i h1 h2 h3 h4
    split at hx
    · simp at hx
    · rename_i hh
      split at hx
      · simp at hx
      · rename_i hno
        split at hx
        · rename_i dd s1 he
          simp only [Option.some.injEq] at hx
          subst hx
          have hno' : ∀ x ∈ o.op.operands.toList, NO s x := by
            intro x hx
            cases x with
            | tmp t =>
              simp only [List.any_eq_true, not_exists, not_and, Bool.not_eq_true] at hno
              exact hno _ hx
            | _ => trivial
          have hsp : Znk o.op = false := by
            cases hop : o.op <;> simp only [Znk]
            · rename_i x; exact absurd hop (h3 x)
            · rename_i t a; exact absurd hop (h2 t a)
            · rename_i x i; exact absurd hop (h4 x i)
          obtain ⟨rfl, _⟩ := Zxg (by simpa using hh) hsp hno' he
          exact he
        · simp at hx
def Zxt (o : Oper) (s s' : St) : Prop :=
  match o.op with
  | .move (.tmp t) => cpD (s'.t.getD t Zaw) = cpD (s.t.getD t Zaw)
  | op => Eqs (opTs op) s s'
theorem Zvp {o : Oper} {s s' : St} {d : D} (hx : Zee P o s = some d) (ha : Zxt o s s') (hm : s'.h = s.h ∨ Zmg o.op = false) : Zee P o s' = some d := by
  have hx0 := hx
  unfold Zee at hx ⊢
  unfold Zxt at ha
  split at hx
  · rename_i t hop
    simp only [hop] at ha ⊢
    have : cpD (s'.t.getD t Zaw) = some d := ha.trans hx
    exact this
  · rename_i t a hop
    simp only [hop] at ha ⊢
    have hm' : s'.h = s.h := by rcases hm with hm | hm; exact hm; simp [hop, Zmg] at hm
    rw [Zhf ha (Zu6 (fun t ht => ht) (show a ∈ (Op.load t a).operands.toList by simp [Op.operands])), hm']
    split at hx
    · rename_i ad had
      cases ad with
      | ro cs off =>
        simp only [Zn3] at hx ⊢
        cases hz : szOf P t with
        | none => simp [hz] at hx
        | some n =>
          cases hg : aggT P t with
          | none => simp [hz, hg] at hx
          | some ag =>
            simp only [hz, hg] at hx ⊢
            split at hx
            · rename_i hn
              rw [if_pos hn]
              cases ag with
              | true => simpa using hx
              | false =>
                simp only at hx ⊢
                split at hx
                · rename_i e he
                  simpa [he] using hx
                · simp at hx
            · simp at hx
      | ob i off =>
        cases hz : szOf P t with
        | none => simp [hz] at hx
        | some n =>
          cases hg : aggT P t with
          | none => simp [hz, hg] at hx
          | some ag => simp only [hz, hg] at hx ⊢; exact hx
    · simp at hx
  · rename_i x hnt hop
    have ha' : Eqs (opTs (.move x)) s s' := by
      rw [hop] at ha
      cases x with
      | tmp t => exact absurd rfl (hnt t)
      | _ => exact ha
    have : rd s' x = rd s x := by
      cases x with
      | tmp t => exact absurd rfl (hnt t)
      | _ => rfl
    exact this.trans hx
  · rename_i x i hop
    simp only [hop] at ha ⊢
    rw [Zhf ha (Zu6 (fun t ht => ht) (show x ∈ (Op.extract x i).operands.toList by simp [Op.operands]))]
    exact hx
  · rename_i h1 h2 h3 h4
    have hsp : Znk o.op = false := by
      cases hop : o.op <;> simp only [Znk]
      · rename_i x; exact absurd hop (h3 x)
      · rename_i t a; exact absurd hop (h2 t a)
      · rename_i x i; exact absurd hop (h4 x i)
    have ha' : Eqs (opTs o.op) s s' := by
      split at ha
      · rename_i t hop; exact absurd hop (h1 t)
      · exact ha
    split at hx
    · simp at hx
    · rename_i hh
      split at hx
      · simp at hx
      · rename_i hno
        split at hx
        · rename_i dd s1 he
          simp only [Option.some.injEq] at hx
          subst hx
          have hno' : ∀ x ∈ o.op.operands.toList, NO s x := by
            intro x hx
            cases x with
            | tmp t =>
              simp only [List.any_eq_true, not_exists, not_and, Bool.not_eq_true] at hno
              exact hno _ hx
            | _ => trivial
          have hno2 : ∀ x ∈ o.op.operands.toList, NO s' x := fun x hx => Znf ha' (Zu6 (fun t ht => ht) hx) (hno' x hx)
          have hno3 : ¬ (o.op.operands.toList.any (Zym s') = true) := by
            simp only [List.any_eq_true, not_exists, not_and, Bool.not_eq_true]
            intro x hx
            have := hno2 x hx
            cases x with
            | tmp t => exact this
            | _ => rfl
          have hr := (Zxg (by simpa using hh) hsp hno' he).2 s' ha' hm
          rw [if_neg hh, if_neg hno3, hr]
        · simp at hx
end Go.Abs
namespace Go.Abs
def Bef (all : Array Oper) (j i : Nat) : Prop := ((Region.before all).getD j 0).testBit i = true
def befF (acc : Array Nat) (o : Oper) : Array Nat :=
  acc.push (o.after.foldl (fun s e => if Region.binds .any e then s ||| 2 ^ e.on ||| acc.getD e.on 0 else s) 0)
theorem Zxq (all : Array Oper) : Region.before all = all.toList.foldl befF #[] := by
  unfold Region.before
  rw [← Array.foldl_toList]; rfl
theorem Zt7 : ∀ (l : List Oper) (acc : Array Nat), (l.foldl befF acc).size = acc.size + l.length
  | [], acc => by simp
  | o :: l, acc => by simp only [List.foldl_cons, Zt7 l, List.length_cons]; simp [befF]; omega
theorem Zw8 : ∀ (l : List Oper) (acc : Array Nat) (i : Nat), i < acc.size → (l.foldl befF acc).getD i 0 = acc.getD i 0
  | [], acc, i, _ => rfl
  | o :: l, acc, i, hi => by
    simp only [List.foldl_cons]
    rw [Zw8 l (befF acc o) i (by simp [befF]; omega)]
    simp [befF, Array.getD_eq_getD_getElem?, Array.getElem?_push, show i ≠ acc.size by omega]
theorem Zpk (T : Array Nat) (i : Nat) : ∀ (es : List Edge) (s : Nat), (es.foldl (fun s e => if Region.binds .any e then s ||| 2 ^ e.on ||| T.getD e.on 0 else s) s).testBit i = true →
    s.testBit i = true ∨ ∃ e ∈ es, Region.binds .any e = true ∧ (e.on = i ∨ (T.getD e.on 0).testBit i = true)
  | [], s, h => .inl h
  | e :: es, s, h => by
    simp only [List.foldl_cons] at h
    rcases Zpk T i es _ h with h1 | ⟨e', h1, h2⟩
    · split at h1
      · rename_i hb
        simp only [Nat.testBit_or, Bool.or_eq_true, Nat.testBit_two_pow, decide_eq_true_eq] at h1
        rcases h1 with (h1 | h1) | h1
        · exact .inl h1
        · exact .inr ⟨e, by simp, hb, .inl h1⟩
        · exact .inr ⟨e, by simp, hb, .inr h1⟩
      · exact .inl h1
    · exact .inr ⟨e', by simp [h1], h2⟩
theorem bef_edge {all : Array Oper} {j i : Nat} {o : Oper} (ho : all[j]? = some o) (he : ∀ e ∈ o.after.toList, Region.binds .any e = true → e.on < j) (h : Bef all j i) :
    ∃ e ∈ o.after.toList, Region.binds .any e = true ∧ (e.on = i ∨ Bef all e.on i) := by
  unfold Bef at h ⊢
  rw [Zxq] at h ⊢
  have hl : all.toList = all.toList.take j ++ o :: all.toList.drop (j + 1) := by
    have hlt := (Array.getElem?_eq_some_iff.1 ho).1
    have h2 : all.toList.drop j = o :: all.toList.drop (j + 1) := by
      rw [List.drop_eq_getElem_cons (by simpa using hlt)]
      congr 1
      have := (Array.getElem?_eq_some_iff.1 ho).2
      simpa using this
    rw [← h2, List.take_append_drop]
  have hj : j < all.size := (Array.getElem?_eq_some_iff.1 ho).1
  generalize hT : (all.toList.take j).foldl befF #[] = T
  have hTs : T.size = j := by rw [← hT, Zt7]; simp; omega
  have hall : all.toList.foldl befF #[] = (all.toList.drop (j + 1)).foldl befF (befF T o) := by
    conv => lhs; rw [hl]
    rw [List.foldl_append, List.foldl_cons, hT]
  have hold : ∀ i, i < j → (all.toList.foldl befF #[]).getD i 0 = T.getD i 0 := by
    intro i hi
    rw [hall, Zw8 _ _ _ (by simp [befF, hTs]; omega)]
    simp [befF, Array.getD_eq_getD_getElem?, Array.getElem?_push, hTs, show i ≠ j by omega]
  rw [hall, Zw8 _ _ _ (by simp [befF, hTs])] at h
  have hnew : (befF T o).getD j 0 = o.after.foldl (fun s e => if Region.binds .any e then s ||| 2 ^ e.on ||| T.getD e.on 0 else s) 0 := by
    unfold befF
    rw [Array.getD_eq_getD_getElem?, Array.getElem?_push, if_pos hTs.symm, Option.getD_some]
  rw [hnew, ← Array.foldl_toList] at h
  rcases Zpk T i _ 0 h with h1 | ⟨e, h1, h2, h3⟩
  · simp at h1
  · refine ⟨e, h1, h2, ?_⟩
    rw [hold _ (he e h1 h2)]
    exact h3
structure Plan (all : Array Oper) : Prop where
  edge : ∀ (j : Nat) o, all[j]? = some o → ∀ e ∈ o.after.toList, Region.binds .any e = true → e.on < j
  pair : ∀ (i j : Nat) p o, all[i]? = some p → all[j]? = some o → i < j → ¬ Bef all j i →
    ¬ (heavy p.op = true ∧ heavy o.op = true) ∧ (∀ d, p.dst = some d → d ∉ Zix all o) ∧ (∀ d, o.dst = some d → d ∉ Zix all p)
theorem plan_of {all : Array Oper} (h : planOk all = true) : Plan all := by
  unfold planOk at h
  simp only [List.all_eq_true] at h
  have mem : ∀ (j : Nat) o, all[j]? = some o → (o, j) ∈ all.toList.zipIdx := by
    intro j o ho
    rw [List.mem_zipIdx_iff_getElem?]
    simpa using ho
  refine ⟨fun j o ho e he hbd => ?_, fun i j p o hp ho hij hb => ?_⟩
  · have := h (o, j) (mem j o ho)
    simp only [Bool.and_eq_true] at this
    have h1 := this.1.1
    rw [← Array.all_toList, List.all_eq_true] at h1
    have := h1 e he
    simp only [hbd, Bool.not_true, Bool.false_or, decide_eq_true_eq] at this
    exact this
  · have := h (o, j) (mem j o ho)
    simp only [Bool.and_eq_true, List.all_eq_true] at this
    have h1 := this.2 (p, i) (mem i p hp)
    simp only [Bool.or_eq_true, decide_eq_true_eq, Bool.and_eq_true, Bool.not_eq_true', Bool.and_eq_false_iff] at h1
    unfold Bef at hb
    rcases h1 with (h1 | h1) | h1
    · omega
    · exact absurd h1 hb
    · obtain ⟨⟨h1, h2⟩, h3⟩ := h1
      refine ⟨fun hh => ?_, fun d hd hm => ?_, fun d hd hm => ?_⟩
      · rcases h1 with h1 | h1
        · rw [hh.1] at h1; simp at h1
        · rw [hh.2] at h1; simp at h1
      · rw [hd] at h2; simp [hm] at h2
      · rw [hd] at h3; simp [hm] at h3
theorem bef_lt {all : Array Oper} (hp : Plan all) : ∀ (j i : Nat), Bef all j i → i < j := by
  intro j
  induction j using Nat.strongRecOn with
  | _ j ih =>
    intro i h
    cases ho : all[j]? with
    | none =>
      unfold Bef at h
      have : (Region.before all).getD j 0 = 0 := by
        rw [Array.getD_eq_getD_getElem?, Array.getElem?_eq_none, Option.getD_none]
        rw [Zxq, Zt7]
        have := Array.getElem?_eq_none_iff.1 ho
        simpa using this
      rw [this] at h; simp at h
    | some o =>
      obtain ⟨e, h1, h2, h3⟩ := bef_edge ho (hp.edge j o ho) h
      have hlt := hp.edge j o ho e h1 h2
      rcases h3 with h3 | h3
      · omega
      · have := ih e.on hlt i h3; omega
inductive Lin (all : Array Oper) : (Nat → Prop) → List Nat → Prop where
  | nil (D : Nat → Prop) (h : ∀ j, j < all.size → D j) : Lin all D []
  | cons (D : Nat → Prop) (j : Nat) (σ : List Nat) (hj : j < all.size) (hn : ¬ D j) (hb : ∀ i, Bef all j i → D i) (t : Lin all (fun i => D i ∨ i = j) σ) : Lin all D (j :: σ)
theorem count_lt {p q : Nat → Bool} : ∀ (l : List Nat), (∀ x, q x = true → p x = true) → (∃ x ∈ l, p x = true ∧ q x = false) → (l.filter q).length < (l.filter p).length
  | [], _, h => by obtain ⟨x, hx, _⟩ := h; simp at hx
  | a :: l, hpq, ⟨x, hx, h1, h2⟩ => by
    have hle : ∀ (l : List Nat), (l.filter q).length ≤ (l.filter p).length := by
      intro l
      induction l with
      | nil => simp
      | cons a l ih =>
        simp only [List.filter_cons]
        cases hq : q a with
        | true => simp [hpq a hq]; exact ih
        | false => cases hp : p a <;> simp <;> omega
    simp only [List.filter_cons]
    rcases List.mem_cons.1 hx with rfl | hx
    · simp [h1, h2]; have := hle l; omega
    · have ih := count_lt l hpq ⟨x, hx, h1, h2⟩
      cases hq : q a with
      | true => simp [hpq a hq]; exact ih
      | false => cases hp : p a <;> simp <;> omega
def Dl (all : Array Oper) (listed : Array Bool) (j : Nat) : Prop := j < all.size ∧ listed.getD j true = true
theorem lin_go {all : Array Oper} (hp : Plan all) : ∀ (fuel t : Nat) (listed : Array Bool), listed.size = all.size → ((List.range all.size).filter fun i => !listed.getD i true).length ≤ fuel →
    (∀ j, Dl all listed j → ∀ i, Bef all j i → Dl all listed i) → Lin all (Dl all listed) (Region.linearise.go .any all fuel t listed []) := by
  have done : ∀ (listed : Array Bool), ((List.range all.size).filter fun i => !listed.getD i true) = [] → ∀ j, j < all.size → Dl all listed j := by
    intro listed h j hj
    rw [List.filter_eq_nil_iff] at h
    have := h j (by simpa using hj)
    exact ⟨hj, by simpa using this⟩
  intro fuel
  induction fuel with
  | zero =>
    intro t listed hs hc hd
    simp only [Region.linearise.go, List.reverse_nil]
    exact .nil _ (done listed (List.length_eq_zero_iff.1 (by omega)))
  | succ fuel ih =>
    intro t listed hs hc hd
    simp only [Region.linearise.go]
    change Lin all _ (match (Region.ready .any all listed)[t % (Region.ready .any all listed).length]? with
      | some i => Region.linearise.go .any all fuel (t / (Region.ready .any all listed).length) (listed.setIfInBounds i true) [i]
      | none => [].reverse)
    cases hi : (Region.ready .any all listed)[t % (Region.ready .any all listed).length]? with
    | none =>
      have hnil : Region.ready .any all listed = [] := by
        cases hr : Region.ready .any all listed with
        | nil => rfl
        | cons x xs =>
          rw [hr] at hi
          have hlt : t % (x :: xs).length < (x :: xs).length := Nat.mod_lt _ (by simp)
          simp at hi
          simp at hlt
          omega
      refine .nil _ ?_
      intro j
      induction j using Nat.strongRecOn with
      | _ j ihj =>
        intro hj
        refine ⟨hj, ?_⟩
        rcases hb : listed.getD j true with _ | _
        · exfalso
          have hm : j ∈ Region.ready .any all listed := by
            unfold Region.ready
            rw [List.mem_filter]
            refine ⟨by simpa using hj, ?_⟩
            have ho : all[j]? = some all[j] := Array.getElem?_eq_getElem hj
            simp only [hb, Bool.not_false, Bool.true_and, ho, Option.map_some, Option.getD_some]
            rw [← Array.all_toList, List.all_eq_true]
            intro e he
            rcases Bool.eq_false_or_eq_true (Region.binds .any e) with hbd | hbd
            rotate_left
            · simp [hbd]
            have hlt := hp.edge j _ ho e he hbd
            have := (ihj e.on hlt (by omega)).2
            have h2 : e.on < listed.size := by omega
            simp only [Array.getD_eq_getD_getElem?, Array.getElem?_eq_getElem h2, Option.getD_some] at this ⊢
            simp [this]
          rw [hnil] at hm; simp at hm
        · rfl
    | some j =>
      simp only
      rw [linearise_go_acc, List.reverse_singleton, List.singleton_append]
      have hm := List.mem_of_getElem? hi
      unfold Region.ready at hm
      rw [List.mem_filter] at hm
      obtain ⟨hj, hr⟩ := hm
      have hj' : j < all.size := by simpa using hj
      have ho : all[j]? = some all[j] := Array.getElem?_eq_getElem hj'
      simp only [Bool.and_eq_true, Bool.not_eq_true', ho, Option.map_some, Option.getD_some] at hr
      obtain ⟨hn, hr⟩ := hr
      rw [← Array.all_toList, List.all_eq_true] at hr
      have hbef : ∀ i, Bef all j i → Dl all listed i := by
        intro i hb
        obtain ⟨e, h1, h2, h3⟩ := bef_edge ho (hp.edge j _ ho) hb
        have hlt := hp.edge j _ ho e h1 h2
        have hbm : Region.binds .any e = true := h2
        have := hr e h1
        have h2' : e.on < listed.size := by omega
        have hD : Dl all listed e.on := by
          refine ⟨by omega, ?_⟩
          simp only [Array.getD_eq_getD_getElem?, Array.getElem?_eq_getElem h2', Option.getD_some, hbm, Bool.not_true, Bool.false_or] at this ⊢
          exact this
        rcases h3 with h3 | h3
        · rw [← h3]; exact hD
        · exact hd _ hD i h3
      have hset : ∀ i, (listed.setIfInBounds j true).getD i true = (if i = j then true else listed.getD i true) := by
        intro i
        simp only [Array.getD_eq_getD_getElem?, Array.getElem?_setIfInBounds]
        by_cases e : j = i
        · subst e; simp [hs, hj']
        · simp [e, Ne.symm e]
      have hDl : Dl all (listed.setIfInBounds j true) = fun i => Dl all listed i ∨ i = j := by
        funext i
        apply propext
        unfold Dl
        rw [hset]
        by_cases e : i = j
        · subst e; simp [hj']
        · simp [e]
      refine .cons _ j _ hj' (fun h => by have := h.2; rw [hn] at this; simp at this) hbef ?_
      rw [← hDl]
      refine ih _ _ (by simpa using hs) ?_ ?_
      · have := count_lt (p := fun i => !listed.getD i true) (q := fun i => !(listed.setIfInBounds j true).getD i true) (List.range all.size)
          (fun x hx => by rw [hset] at hx; split at hx <;> simp_all) ⟨j, hj, by simp [hn], by simp [hset]⟩
        omega
      · rw [hDl]
        intro k hk i hb
        rcases hk with hk | rfl
        · exact .inl (hd k hk i hb)
        · exact .inl (hbef i hb)
theorem Zx7 {all : Array Oper} (hp : Plan all) (t : Nat) : Lin all (fun _ => False) (Region.schedule true all t) := by
  have h0 : ∀ t, Lin all (fun _ => False) (Region.linearise .any all t) := by
    intro t
    have hD : Dl all (Array.replicate all.size false) = fun _ => False := by
      funext j
      apply propext
      constructor
      · rintro ⟨h1, h2⟩
        rw [Array.getD_eq_getD_getElem?, Array.getElem?_eq_getElem (by simpa using h1)] at h2
        simp at h2
      · exact False.elim
    have := lin_go hp all.size t (Array.replicate all.size false) (by simp) (by
      refine Nat.le_trans (List.length_filter_le _ _) (by simp)) (by rw [hD]; intro j h; exact h.elim)
    rw [hD] at this
    exact this
  exact h0 _
end Go.Abs
namespace Go.Abs
section
variable {P : Program} {w : World} {G : Gh} {tm : List Value} {df : List Deferred} {pv : List Value} {pd : List D} {s : St}
theorem own_shr {d : D} (h : notTup d = true) : ownD (shr d) = false := by
  cases d with
  | agg cs =>
    simp only [shr, ownD, ownA, List.any_eq_false]
    intro x hx; obtain ⟨y, _, rfl⟩ := List.mem_map.1 hx; simp [Zvd]
  | tup cs => simp [notTup] at h
  | osl ex fu sz es => cases fu <;> rfl
  | _ => rfl
theorem ofV_own {v : Value} {d : D} (h : ofV v = some d) : ownD d = false := by
  rcases Zsp (w := default) (G := ⟨[], fun _ _ => False⟩) h with ⟨_, b, _⟩ | ⟨_, rfl⟩
  · exact b
  · rfl
theorem Zs8 {x : Operand} {d : D} {s1 : St} (hx : sh s x = some (d, s1)) : ownD d = false := by
  cases x with
  | tmp t =>
    simp only [sh] at hx
    split at hx
    · split at hx
      · simp at hx
      · rename_i hnt
        simp at hx
        obtain ⟨rfl, _⟩ := hx
        refine own_shr ?_
        cases e : s.t.getD t Zaw <;> simp_all [notTup]
    · rename_i ho
      simp at hx
      obtain ⟨rfl, _⟩ := hx
      simpa using ho
  | const v =>
    simp [sh] at hx
    obtain ⟨d', h1, rfl, rfl⟩ := hx
    exact ofV_own h1
  | global g => simp [sh, rd] at hx
  | func f => simp [sh, rd] at hx; obtain ⟨rfl, _⟩ := hx; rfl
theorem op_field (h : RelSt w G tm df pv pd s) {rest : List Oper} {o : Oper} {t : TypeId} {x : Operand} {f : Nat} (ho : o.op = .field t x f) {d : D} {s1 : St} (hx : exOp P rest o s = some (.val d, s1)) : Ziv P w G tm df pv pd s o d s1 := by
  simp only [exOp, ho] at hx
  split at hx
  · rename_i fs cs s2 hfs h1
    split at hx
    · rename_i fl hfl
      simp at hx
      obtain ⟨d', h2, rfl, rfl⟩ := hx
      obtain ⟨arr, hu, rfl⟩ := Zpp hfs
      have hfl' : arr[f]? = some fl := by simpa using hfl
      refine Zl5 h h1 (fun G' _ hr => ?_)
      obtain ⟨vs, e, k1, k2, k3⟩ := Zly hr
      have hown := Zs8 h1
      obtain ⟨v, q1, q2, q3⟩ := Zro k1 k2 k3 h2 (by simpa [ownD, ownA] using hown)
      exact ⟨v, by simp [execOp, ho, e, Instr.field, run_underlying hu, hfl', asAgg, q1], q2, fun b => Zhc q2 q3⟩
    · simp at hx
  · simp at hx
theorem op_index (h : RelSt w G tm df pv pd s) {rest : List Oper} {o : Oper} {t : TypeId} {x y : Operand} (ho : o.op = .index t x y) {d : D} {s1 : St} (hx : exOp P rest o s = some (.val d, s1)) : Ziv P w G tm df pv pd s o d s1 := by
  simp only [exOp, ho] at hx
  split at hx
  · rename_i d0 s2 h1
    split at hx
    · rename_i di h2
      simp at hx
      obtain ⟨d', h3, rfl, rfl⟩ := hx
      refine Zl5 h h1 (fun G' hs hr => ?_)
      have hi := Zh1 hs h2
      have hown := Zs8 h1
      unfold indexD at h3
      split at h3
      · rename_i b k i hu
        have e1 := Zk9 hr; have e2 := Zgb hi
        split at h3
        · rename_i hge
          split at h3
          · rename_i c hc
            simp at h3; subst h3
            refine ⟨_, ?_, .e _ _ (.int _ _), fun b => by rw [Zda rfl, Zme]⟩
            simp [execOp, ho, e1, e2, Instr.index, asIntOf, run_underlying hu, hge, hc]
          · simp at h3
        · simp at h3
      · rename_i n el cs k i hu
        obtain ⟨vs, e1, k1, k2, k3⟩ := Zly hr
        have e2 := Zgb hi
        split at h3
        · rename_i sz hsz
          split at h3
          · rename_i hb
            obtain ⟨v, q1, q2, q3⟩ := Zro k1 k2 k3 h3 (by simpa [ownD, ownA] using hown)
            exact ⟨v, by simp [execOp, ho, e1, e2, Instr.index, asIntOf, run_underlying hu, hb, Zhe hsz, q1], q2, fun b => Zhc q2 q3⟩
          · simp at h3
        · simp at h3
      · simp at h3
    · simp at hx
  · simp at hx
theorem Znl {v : Value} {d : D} {es : List (List E)} (h : RelD w G v d) (ho : ownD d = false) (hs : slOf d = some es) :
    (es = [] ∧ v = .slice none 0 0) ∨ ∃ b o cap sz, v = .slice (some ⟨b, o, none⟩) es.length cap ∧ es.length ≤ cap ∧ (0 < sz ∨ es = []) ∧ (∀ r ∈ es, r.length = sz) ∧ ∀ i r, es[i]? = some r → RowE w G.S b (o + i * sz) r := by
  unfold slOf at hs
  split at hs
  · simp at hs; subst hs
    rcases (Zg8 h).rows with ⟨a, b⟩ | ⟨b, o, cap, sz, h1, h2, h3, h4, h5⟩
    · exact .inl ⟨a, b⟩
    · exact .inr ⟨b, o, cap, sz, h1, h2, .inl h3, h4, h5⟩
  · rename_i ex fu sz es'
    simp at hs; subst hs
    simp [ownD, ownA, own0] at ho
    cases h with
    | oslN _ _ _ => exact .inl ⟨rfl, rfl⟩
    | osl b o n cap _ _ _ _ hn hc hfu h0 hsz hs =>
      subst hn
      exact .inr ⟨b, o, cap, sz, rfl, hc, h0.imp id (·.1), hsz, hs ho.1⟩
  · simp at hs
theorem Zwz (h : RelSt w G tm df pv pd s) {rest : List Oper} {o : Oper} {t : TypeId} {x y : Operand} (ho : o.op = .indexAddr t x y) {d : D} {s1 : St} (hx : exOp P rest o s = some (.val d, s1)) : Ziv P w G tm df pv pd s o d s1 := by
  simp only [exOp, ho] at hx
  split at hx
  · rename_i d0 s2 h1
    split at hx
    · rename_i di h2
      simp at hx
      obtain ⟨d', h3, rfl, rfl⟩ := hx
      refine Zl5 h h1 (fun G' hs hr => ?_)
      have hi := Zh1 hs h2
      have hown := Zs8 h1
      unfold Zeh at h3
      split at h3
      · rename_i n el k i hu
        have e2 := Zgb hi
        split at h3
        · rename_i sz a hsz ha
          split at h3
          · rename_i hb
            simp at h3; subst h3
            obtain ⟨xa, e1, hok⟩ := Zt9 hr ha
            refine ⟨_, ?_, adD_rel (hok.add (i.toNat * sz)), fun b => adD_tok b _ _⟩
            simp [execOp, ho, e1, e2, Instr.indexAt, asIntOf, run_underlying hu, hb, Zhe hsz, Instr.sureAddr]
          · simp at h3
        · simp at h3
      · rename_i el k i hu
        have e2 := Zgb hi
        split at h3
        · rename_i sz hsz
          split at h3
          · rename_i k' off len
            split at h3
            · rename_i hb
              simp at h3; subst h3
              have e1 : ∃ b cap, ev tm x = .slice (some ⟨b, off, none⟩) len cap ∧ G'.ob[k']? = some b := by
                generalize ev tm x = v at hr
                cases hr with | asl i off len cap b h => exact ⟨b, cap, rfl, h⟩
              obtain ⟨b, cap, e1, e3⟩ := e1
              refine ⟨_, ?_, .ptr k' (off + i.toNat * sz) b e3, fun b => by rw [Zda rfl]; unfold tok; split <;> first | rfl | (rename_i q; cases q)⟩
              simp [execOp, ho, e1, e2, Instr.indexAt, asIntOf, run_underlying hu, hb, Zhe hsz, Addr.add_none]
            · simp at h3
          · split at h3
            · rename_i es hes
              split at h3
              · rename_i hge
                split at h3
                · rename_i r hr'
                  split at h3
                  · rename_i hb
                    simp at h3; subst h3
                    rcases Znl hr hown hes with ⟨rfl, _⟩ | ⟨b, o', cap, sz', e1, k1, k2, k3, k4⟩
                    · simp at hr'
                    · have hz : sz' = sz := by rw [← hb.1]; exact (k3 r (List.mem_of_getElem? hr')).symm
                      subst hz
                      have hlt : i.toNat < es.length := (List.getElem?_eq_some_iff.1 hr').1
                      refine ⟨_, ?_, .rptr b (o' + i.toNat * sz') 0 r (k4 _ _ hr'), fun b => by rw [Zda rfl]; unfold tok; split <;> first | rfl | (rename_i q; cases q)⟩
                      have hlt' : i < (es.length : Int) := by omega
                      simp [execOp, ho, e1, e2, Instr.indexAt, asIntOf, run_underlying hu, hge, hlt', Zhe hsz, Addr.add_none]
                  · simp at h3
                · simp at h3
              · simp at h3
            · simp at h3
        · simp at h3
      · simp at h3
    · simp at hx
  · simp at hx
theorem RelSt.takePart (h : RelSt w G tm df pv pd s) {t : Nat} (ht : t < tm.length) {d1 : D} (h1 : RelD w G (tm.getD t undef) d1) (h1' : LeafT w G.S (tm.getD t undef) d1) {u : Value} {e : D} (h2 : RelD w G u e) (h2' : LeafT w G.S u e)
    (h3 : ∀ b, tokT b (tm.getD t undef) d1 + tokT b u e ≤ tokT b (tm.getD t undef) (s.t.getD t Zaw)) :
    RelSt w G tm df (u :: pv) (e :: pd) { s with t := s.t.set t d1 } ∧ ∀ b, cntS w G tm (u :: pv) (e :: pd) { s with t := s.t.set t d1 } b ≤ cntS w G tm pv pd s b := by
  have hl := h.L.len
  have hv : tm[t]? = some (tm.getD t undef) := by simp [List.getD, List.getElem?_eq_getElem ht]
  have hd : s.t[t]? = some (s.t.getD t Zaw) := by simp [List.getD, List.getElem?_eq_getElem (show t < s.t.length by omega)]
  have hs : ∀ b, sumZ (tokT b) tm (s.t.set t d1) + tokT b u e ≤ sumZ (tokT b) tm s.t := by
    intro b
    have := Zpn (tokT b) tm s.t t d1 _ _ hv hd
    have := h3 b
    omega
  refine ⟨{ L := h.L.setD t hv h1 h1', P := h.P.cons h2 h2', len := h.len, nd := h.nd, obS := h.obS, H := h.H, S := h.S, dfr := h.dfr, one := ?_, noob := ?_ }, ?_⟩
  · intro b; have := h.one b; have := hs b; simp only [sumZ]; omega
  · intro b hb; have := h.noob b hb; have := hs b; simp only [sumZ]; omega
  · intro b; have := hs b; simp only [cntS, sumZ]; omega
theorem op_extract (h : RelSt w G tm df pv pd s) {rest : List Oper} {o : Oper} {x : Operand} {i : Nat} (ho : o.op = .extract x i) {d : D} {s1 : St} (hx : exOp P rest o s = some (.val d, s1)) : Ziv P w G tm df pv pd s o d s1 := by
  simp only [exOp, ho] at hx
  split at hx
  · rename_i t
    split at hx
    · rename_i ds hds
      split at hx
      · rename_i d0 hd0
        have hlt : (t : Nat) < s.t.length := (List.getElem?_eq_some_iff.1 hds).1
        have hlt' : (t : Nat) < tm.length := by have := h.L.len; exact Nat.lt_of_lt_of_eq hlt this.symm
        obtain ⟨k1, k2⟩ := h.slot t
        have e0 : s.t.getD t Zaw = .tup ds := by simp [List.getD, hds]
        rw [e0] at k1 k2
        obtain ⟨vs, e1, q1, q2⟩ := Zux k1
        have hi : i < vs.size := by rw [q1]; exact (List.getElem?_eq_some_iff.1 hd0).1
        have hv : vs[i]? = some vs[i] := Array.getElem?_eq_getElem hi
        have r := q2 i _ d0 hv hd0
        have hrun : (execOp (ev tm) o).run P w = .ok (.value vs[i]) w := by
          have : ev tm (.tmp t) = .tuple vs := e1
          simp [execOp, ho, this, Instr.extract, hv]
        split at hx
        · rename_i hown
          split at hx
          case isFalse => simp at hx
          rename_i hnt
          simp only [Option.some.injEq, Prod.mk.injEq, Out.val.injEq] at hx
          obtain ⟨rfl, rfl⟩ := hx
          rw [e1] at k2
          have la : LeafA w G.S vs[i] d0 := k2 i _ d0 hv hd0
          have hle : ∀ b, tokT b (.tuple vs) (.tup (ds.set i (left d0))) + tokT b vs[i] d0 ≤ tokT b (.tuple vs) (.tup ds) := by
            intro b
            have := Zpn (tokA b) vs.toList ds i (left d0) vs[i] d0 (by simp) hd0
            rw [Zpi b r] at this
            rw [Zh0 hnt]
            simp only [tokT]; omega
          obtain ⟨m1, m2⟩ := h.takePart (d1 := .tup (ds.set i (left d0))) hlt' (by
              rw [e1]
              refine .tup _ _ (by simpa using q1) (fun j v e hj he => ?_)
              by_cases hij : i = j
              · subst hij; rw [List.getElem?_set] at he; simp at he
                obtain ⟨_, rfl⟩ := he
                rw [hv] at hj; cases hj; exact Zuw r
              · rw [List.getElem?_set_ne hij] at he; exact q2 j v e hj he) (by
              rw [e1]
              intro j v e hj he
              by_cases hij : i = j
              · subst hij; rw [List.getElem?_set] at he; simp at he
                obtain ⟨_, rfl⟩ := he
                rw [hv] at hj; cases hj; exact Znw (fun b => Zpi b r)
              · rw [List.getElem?_set_ne hij] at he; exact k2 j v e hj he) r ((Zdu hnt).2 la) (fun b => by rw [e1, e0]; exact hle b)
          exact ⟨w, G, _, vs[i], hrun, .inl rfl, m1, (Ext.refl w G _).weaken (fun _ => Nat.le_refl _) (fun b _ => m2 b), rfl, rfl⟩
        · rename_i hown
          simp only [Option.some.injEq, Prod.mk.injEq, Out.val.injEq] at hx
          obtain ⟨rfl, rfl⟩ := hx
          exact Zen h hrun r (fun b => Zhc r (by simpa using hown))
      · simp at hx
    · simp at hx
  · simp at hx
end
end Go.Abs
