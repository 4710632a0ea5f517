/-
  HOW A CALL ENDS: of a function that is called in the usual way. LOOPS OVER FUNCTIONS: slots that rounds read are sealed. LOOPS OVER FUNCTIONS: the machine's steps. A LOOP OVER A FUNCTION. A ROUND of a loop over a function. No condition.
-/
import Derived.Test.YtkimilghfbgjmaaQ10

open List renaming getElem?_eq_getElem → Ya4
open Nat renaming le_refl → Yab
namespace Go.Abs
section
variable {P : Program} {F : Fr} {w : World} {G : Gh} {tm : List Value} {df : List Deferred} {pv : List Value} {pd : List D} {k : List Item} {cs : List Frame} {s : St}
def resV (tm : List Value) : ResultVar → Sem Value
  | .tmp t => pure (tm.getD t undef)
  | .cell a t => do loadVar t (← asAddr (tm.getD a undef))
theorem Zuv : ∀ (rs : List ResultVar) {G : Gh} {s : St} {pv : List Value} {pd ds : List D} {s2 : St}, RelSt w G tm df pv pd s → resD P s rs = some (ds, s2) →
    ∃ G' vs, (rs.mapM (resV tm)).run P w = .ok vs w ∧ RelSt w G' tm df (vs ++ pv) (ds ++ pd) s2 ∧ vs.length = ds.length ∧ Ext w G (cntS w G tm pv pd s) w G' (cntS w G' tm (vs ++ pv) (ds ++ pd) s2)
  | [], G, s, pv, pd, ds, s2, h, hx => by
    simp [resD] at hx
    obtain ⟨rfl, rfl⟩ := hx
    exact ⟨G, [], rfl, h, rfl, .refl _ _ _⟩
  | .tmp t :: rs, G, s, pv, pd, ds, s2, h, hx => by
    simp only [resD] at hx
    split at hx
    · rename_i d s1 h1
      split at hx
      · rename_i ds' s2' h2
        simp at hx
        obtain ⟨rfl, rfl⟩ := hx
        obtain ⟨k1, k2, k3, k4, k5⟩ := Zs2 h h1
        obtain ⟨G', vs, m1, m2, m3, m4⟩ := Zuv rs k1 h2
        obtain ⟨n1, n2⟩ := m2.rot m3
        refine ⟨G', tm.getD t undef :: vs, ?_, n1, by simp [m3], m4.weaken (fun b => Nat.le_of_eq (k2 b)) (fun b hb => ?_)⟩
        · simp only [List.mapM_cons, resV, Sem.run_bind, Sem.run_pure, Result.andThen_ok, m1]
        · have := m4.cnt b hb; have := k2 b; have := n2 b
          simp only [List.cons_append, ev] at *; omega
      · simp at hx
    · simp at hx
  | .cell a t :: rs, G, s, pv, pd, ds, s2, h, hx => by
    simp only [resD] at hx
    split at hx
    · rename_i ad had
      split at hx
      · rename_i d s1 h1
        split at hx
        · rename_i ds' s2' h2
          simp at hx
          obtain ⟨rfl, rfl⟩ := hx
          obtain ⟨x, hxv, hok⟩ := Zt9 (h.slot a).1 had
          obtain ⟨v, G1, k1, k2, k3, k4, k5, _, _⟩ := Zx5 h hok h1
          obtain ⟨G', vs, m1, m2, m3, m4⟩ := Zuv rs k2 h2
          obtain ⟨n1, n2⟩ := m2.rot m3
          refine ⟨G', v :: vs, ?_, n1, by simp [m3], (k3.trans m4).weaken (fun b => Yab _) (fun b hb => ?_)⟩
          · simp only [List.mapM_cons, resV, Sem.run_bind, Sem.run_pure, hxv, asAddr, Result.andThen_ok, k1, m1]
          · have := (k3.trans m4).cnt b hb; have := n2 b
            simp only [List.cons_append] at *; omega
        · simp at hx
      · simp at hx
    · simp at hx
theorem RelSt.setR {t : List D} {l : List (FuncId × List D)} {r r' : Rc} {h : List O} (k : RelSt w G tm df pv pd { t := t, d := l, r := r, h := h }) : RelSt w G tm df pv pd { t := t, d := l, r := r', h := h } :=
  { L := k.L, P := k.P, len := k.len, nd := k.nd, obS := k.obS, H := k.H, S := k.S, one := k.one, noob := k.noob, dfr := k.dfr }
theorem tokA_le {v : Value} {d : D} (h : RelD w G v d) (b : Nat) : tokA b v d ≤ tokT b v d := by
  cases hn : notTup d with
  | true => exact Nat.le_of_eq (Zh0 hn).symm
  | false =>
    cases d <;> simp [notTup] at hn
    rename_i ds
    obtain ⟨vs, rfl, _⟩ := Zux h
    simp [tokA, tok]
def tupV (vs : List Value) : Value := match vs with | [v] => v | vs => .tuple vs.toArray
theorem RelSt.tuple {vs : List Value} {ds : List D} (h : RelSt w G tm df vs ds s) :
    RelSt w G tm df [tupV vs] [tupD ds] s ∧ ∀ b, cntS w G tm [tupV vs] [tupD ds] s b ≤ cntS w G tm vs ds s b := by
  have hl := h.P.len
  by_cases h1 : ∃ v d, vs = [v] ∧ ds = [d]
  · obtain ⟨v, d, rfl, rfl⟩ := h1
    exact ⟨h, fun b => Yab _⟩
  · have e1 : tupV vs = .tuple vs.toArray := by
      unfold tupV; split
      · rename_i v
        exfalso; apply h1
        match ds, hl with
        | [d], _ => exact ⟨v, d, rfl, rfl⟩
      · rfl
    have e2 : tupD ds = .tup ds := by
      unfold tupD; split
      · rename_i d
        exfalso; apply h1
        match vs, hl with
        | [v], _ => exact ⟨v, d, rfl, rfl⟩
      · rfl
    rw [e1, e2]
    have ht : ∀ b, tokT b (.tuple vs.toArray) (.tup ds) ≤ sumZ (tokT b) vs ds := by
      intro b
      simp only [tokT]
      exact Zs4 _ _ _ _ _ rfl (fun i v d e hv hd he => by
        rw [hd] at he; cases he
        exact tokA_le (h.P.rel i v d (by simpa using hv) hd) b)
    have hr : RelD w G (.tuple vs.toArray) (.tup ds) := .tup _ _ (by simpa using hl) (fun i v d hv hd => h.P.rel i v d (by simpa using hv) hd)
    have hlf : LeafT w G.S (.tuple vs.toArray) (.tup ds) := by
      intro i v d hv hd
      have h3 := h.P.leaf i v d (by simpa using hv) hd
      cases hn : notTup d with
      | true => exact (Zdu hn).1 h3
      | false =>
        cases d <;> simp [notTup] at hn
        obtain ⟨us, rfl, _⟩ := Zux (h.P.rel i v _ (by simpa using hv) hd)
        trivial
    refine ⟨{ L := h.L, P := (RelL.nil w G).cons hr hlf, len := h.len, nd := h.nd, obS := h.obS, H := h.H, S := h.S, dfr := h.dfr, one := ?_, noob := ?_ }, ?_⟩
    · intro b; have := h.one b; have := ht b; simp only [sumZ] at *; omega
    · intro b hb; have := h.noob b hb; have := ht b; simp only [sumZ] at *; omega
    · intro b; have := ht b; simp only [cntS, sumZ]; omega
theorem Zxz {fn : Func} {vs : List Value} (h : (fn.results.toList.mapM (resV tm)).run P w = .ok vs w) : (results fn tm.toArray).run P w = .ok (tupV vs) w := by
  have h1 : (fn.results.mapM (resV tm)).run P w = .ok vs.toArray w := by
    rw [Array.mapM_eq_mapM_toList]
    simp [h]
  have h2 : ∀ r, (match r with | .tmp t => pure (tm.toArray.getD t undef) | .cell a t => do loadVar t (← asAddr (tm.toArray.getD a undef)) : Sem Value) = resV tm r := by
    intro r; cases r <;> simp [resV, Array.getD_eq_getD_getElem?]
  have h3 : results fn tm.toArray = (do let vs ← fn.results.mapM (resV tm); pure (if h : vs.size = 1 then vs[0] else .tuple vs)) := by
    unfold results
    congr 2
    funext r
    exact h2 r
  rw [h3]
  simp only [Sem.run_bind, h1, Result.andThen_ok, Sem.run_pure]
  cases vs with
  | nil => rfl
  | cons v t =>
    cases t with
    | nil => rfl
    | cons u t => simp [tupV]
theorem mc_fn {f : FuncId} {fn : Func} {c : Code} {args : List D} {h : List O} {r : Abs.X × St} {u : Option D} {q : Option D × List O} {rc : Out × List O} (hf : P.funcs[f]? = some fn) (hb : Zo4 fn = some c)
    (hE : ME P f c { t := Zbj fn args, d := [], r := .no, h := h } r) (hw : wantT r.1 = some u) (hU : MU P r.2.d u r.2.h q) (hl : Zqa P fn h q.1 r.2.t q.2 = some rc) : MC P (.fn f) args h rc := by
  refine ⟨⟨fn, hf, by rw [hb]; simp⟩, fun w G vs cs hrel => ?_⟩
  have hlen := hrel.P.len
  have hrel' : RelSt w G [] [] (vs ++ []) (args ++ []) (hSt h) := by simpa using hrel
  obtain ⟨a1, a2⟩ := hrel'.enter hlen (fn.ntmps - vs.length) .no
  have hen : Zbj fn args = args ++ List.replicate (fn.ntmps - vs.length) Zaw := by simp [Zbj, hlen]
  rw [hen] at hE
  obtain ⟨w1, G1, tm1, df1, cs1, q1, q2, q3⟩ := hE.code (F := ⟨f, .normal, none⟩) (k := []) (cs := cs) rfl ⟨a1, rfl, fun b => Nat.zero_le 1⟩
  rw [Zxk hf hb]
  have hcs : cs1 = cs := by
    rcases q3.cs with ⟨_, h2⟩ | ⟨d, c0, t0, v, h1, _⟩
    · exact h2
    · cases h1
  subst hcs
  have hst : ∃ k2 md tmX, (r.2.d ≠ [] ∨ u = none → tmX = tm1) ∧ Steps P (lone (mkF ⟨f, .normal, none⟩ (vs ++ List.replicate (fn.ntmps - vs.length) undef) [] [.code c]) cs1 w) (lone (mdF ⟨f, .normal, none⟩ tmX df1 k2 md) cs1 w1) ∧ MdOK w1 G1 md u := by
    obtain ⟨rX, rs⟩ := r
    cases rX with
    | nrm => cases hw; exact ⟨[], .returning, tm1, fun _ => rfl, Steps.trans q1 (.one (go_end rfl)), rfl⟩
    | ret => cases hw; obtain ⟨k2, q1⟩ := q1; exact ⟨_, .returning, tm1, fun _ => rfl, Steps.trans q1 (.one (go_ret rfl)), rfl⟩
    | pan d => cases hw; obtain ⟨k2, v, tX, hX, _, q1, q4⟩ := q1; exact ⟨k2, _, tX, fun h => h.elim hX (fun h => by cases h), q1, v, rfl, q4⟩
    | ext id => cases hw
    | gto l => cases hw
  obtain ⟨k2, md, tmX, hX, hst, hmd⟩ := hst
  obtain ⟨w2, G2, md2, b1, b2, b3, b4⟩ := hU.2 ⟨f, .normal, none⟩ w1 G1 tm1 tmX df1 k2 cs1 r.2.t r.2.r md q2.rel q2.mks hmd
  have x1 : Ext w G (cntS w G [] vs args (hSt h)) w2 G2 (fun b => cntS w2 G2 tm1 [] [] { t := r.2.t, d := [], r := r.2.r, h := q.2 } b) := by
    refine (q3.ext.trans b3).weaken (fun b => ?_) (fun b hb => ?_)
    · have := a2 b; simp only [List.append_nil, cM, sumZ] at *; omega
    · have := (q3.ext.trans b3).cnt b hb; have := a2 b
      simp only [List.append_nil, cM, sumZ] at *; omega
  have b2' : RelSt w2 G2 tm1 [] [] [] { t := r.2.t, d := [], r := .no, h := q.2 } := b2.setR
  unfold Zqa at hl
  cases hq : q.1 with
  | none =>
    rw [hq] at hl b4
    simp only at hl
    have hmd2 : md2 = .returning := b4
    subst hmd2
    split at hl
    · rename_i ds s2 hres
      simp at hl
      obtain ⟨G3, us, m1, m2, m3, m4⟩ := Zuv _ b2' hres
      have m2' : RelSt w2 G3 tm1 [] us ds s2 := by simpa using m2
      obtain ⟨t1, t2⟩ := m2'.tuple
      obtain ⟨e1, e2⟩ := t1.bare
      have x2 : Ext w G (cntS w G [] vs args (hSt h)) w2 G3 (fun b => cntS w2 G3 tm1 us ds s2 b) := by
        have := m4
        simp only [List.append_nil] at this
        exact x1.trans this
      obtain ⟨G4, g1, g2, _⟩ := RelSt.gc hrel e1 x2 (fun b => Nat.le_trans (e2 b) (t2 b))
      refine ⟨w2, G4, _, tupV us, tupD ds, hst.trans b1, rfl, ?_, ?_, .inl ⟨?_, ?_⟩⟩
      · rw [← hl]; exact g1
      · rw [← hl]; exact g2
      · rw [← hl]
      · refine ⟨rfl, rfl, rfl, fn, hf, ?_⟩
        have : tmX = tm1 := hX (by
          by_cases hd : r.2.d = []
          · right
            rw [hU.1 hd] at hq; exact hq
          · exact .inl hd)
        subst this; exact Zxz m1
    · simp at hl
  | some d =>
    rw [hq] at hl b4
    simp at hl
    obtain ⟨v, rfl, k1, k3⟩ := b4
    have d1 := b2'.dup k1 k3
    obtain ⟨e1, e2⟩ := d1.bare
    have x2 : Ext w G (cntS w G [] vs args (hSt h)) w2 G2 (fun b => cntS w2 G2 tm1 [v] [d] { t := r.2.t, d := [], r := .no, h := q.2 } b) :=
      x1.weaken (fun b => Yab _) (fun b hb => by have := x1.cnt b hb; have := k3 b; simp only [cntS, sumZ] at *; omega)
    obtain ⟨G4, g1, g2, _⟩ := RelSt.gc hrel e1 x2 e2
    refine ⟨w2, G4, _, v, d, hst.trans b1, rfl, ?_, ?_, .inr ⟨?_, ⟨rfl, rfl, fn, hf⟩, k3⟩⟩
    · rw [← hl]; exact g1
    · rw [← hl]; exact g2
    · rw [← hl]
end
end Go.Abs
namespace Go.Abs
theorem Zvr {d : D} (h : ownD d = false) (hn : notTup d = true) : kep d = d ∧ shr d = d := by
  have h0 : ∀ d, own0 d = false → kep0 d = d ∧ shr0 d = d := by
    intro d hd
    cases d <;> simp_all [own0, kep0, shr0]
  cases hd : d with
  | agg cs =>
    subst hd
    have hc : ∀ x ∈ cs, own0 x = false := by simpa [ownD, ownA] using h
    refine ⟨?_, ?_⟩
    · simp only [kep]; congr 1
      exact (List.map_congr_left (fun x hx => (h0 x (hc x hx)).1)).trans (List.map_id _)
    · simp only [shr]; congr 1
      exact (List.map_congr_left (fun x hx => (h0 x (hc x hx)).2)).trans (List.map_id _)
  | tup vs => subst hd; simp [notTup] at hn
  | _ => subst hd; exact h0 _ (by simpa [ownD, ownA] using h)
section
variable {w : World} {G : Gh} {tm : List Value} {df : List Deferred} {pv : List Value} {pd : List D} {s : St}
theorem Zwn (h : RelSt w G tm df pv pd s) : ∀ n, n ≤ tm.length →
    ∃ G', RelSt w G' tm df pv pd { s with t := (s.t.take n).map kep ++ s.t.drop n } ∧ Ext w G (cntS w G tm pv pd s) w G' (cntS w G' tm pv pd { s with t := (s.t.take n).map kep ++ s.t.drop n }) ∧
      ∀ (i : Nat) v d, i < n → tm[i]? = some v → s.t[i]? = some d → RelD w G' v (shrT d) ∧ ∀ b, tokT b v (shrT d) = 0
  | 0, _ => ⟨G, by simpa using h, by simpa using Ext.refl w G _, fun i v d hi => absurd hi (by omega)⟩
  | n + 1, hn => by
    obtain ⟨G1, k1, k2, k3⟩ := Zwn h n (by omega)
    have hl := h.L.len
    have hlt : n < s.t.length := by omega
    have hget : ((s.t.take n).map kep ++ s.t.drop n).getD n Zaw = s.t[n] := by
      simp [List.getD, List.getElem?_append_right, hlt, Nat.min_eq_left (Nat.le_of_lt hlt)]
    have htm : tm[n]? = some (tm.getD n undef) := by simp [List.getD, Ya4 (show n < tm.length by omega)]
    have hset : ((s.t.take n).map kep ++ s.t.drop n).set n (kep s.t[n]) = (s.t.take (n + 1)).map kep ++ s.t.drop (n + 1) := by
      have hd : s.t.drop n = s.t[n] :: s.t.drop (n + 1) := List.drop_eq_getElem_cons hlt
      rw [hd, List.set_append_right _ _ (by simp only [List.length_map, List.length_take]; omega)]
      have h0 : n - ((s.t.take n).map kep).length = 0 := by simp; omega
      rw [h0, List.set_cons_zero, List.take_succ_eq_append_getElem hlt, List.map_append, List.append_assoc]
      rfl
    have step : ∃ G2, RelSt w G2 tm df pv pd { s with t := (s.t.take (n + 1)).map kep ++ s.t.drop (n + 1) } ∧
        Ext w G1 (cntS w G1 tm pv pd { s with t := (s.t.take n).map kep ++ s.t.drop n }) w G2 (cntS w G2 tm pv pd { s with t := (s.t.take (n + 1)).map kep ++ s.t.drop (n + 1) }) ∧
        RelD w G2 (tm.getD n undef) (shrT s.t[n]) ∧ ∀ b, tokT b (tm.getD n undef) (shrT s.t[n]) = 0 := by
      have hrel : RelD w G1 (tm.getD n undef) s.t[n] := by have := (k1.slot n).1; simp only [hget] at this; exact this
      have same : kep s.t[n] = s.t[n] → ({ s with t := (s.t.take (n + 1)).map kep ++ s.t.drop (n + 1) } : St) = { s with t := (s.t.take n).map kep ++ s.t.drop n } := by
        intro e
        rw [← hset, e]
        congr 1
        have := hget
        apply List.ext_getElem?
        intro i
        by_cases hi : n = i
        · subst hi
          rw [List.getElem?_set]
          simp [hlt, List.getElem?_append_right, Nat.min_eq_left (Nat.le_of_lt hlt)]
          omega
        · rw [List.getElem?_set_ne hi]
      cases hnt : notTup s.t[n] with
      | false =>
        have hk : kep s.t[n] = s.t[n] := by cases hd : s.t[n] <;> simp_all [notTup, kep, kep0]
        rw [same hk]
        have e : shrT s.t[n] = Zlo s.t[n] := by cases hd : s.t[n] <;> simp_all [notTup, shrT]
        rw [e]
        exact ⟨G1, k1, .refl _ _ _, Zsc hrel, fun b => Zlc b hrel⟩
      | true =>
        have e : shrT s.t[n] = shr s.t[n] := by cases hd : s.t[n] <;> simp_all [notTup, shrT]
        rw [e]
        cases ho : ownD s.t[n] with
        | false =>
          obtain ⟨q1, q2⟩ := Zvr ho hnt
          rw [same q1, q2]
          exact ⟨G1, k1, .refl _ _ _, hrel, fun b => Zhc hrel ho⟩
        | true =>
          have hsh : sh { s with t := (s.t.take n).map kep ++ s.t.drop n } (.tmp n) = some (shr s.t[n], { s with t := (s.t.take (n + 1)).map kep ++ s.t.drop (n + 1) }) := by
            simp only [sh, hget, ho, if_true, hset]
            cases hd : s.t[n] <;> simp_all [notTup]
          obtain ⟨G2, m1, m2, m3, _⟩ := Zon k1 hsh
          refine ⟨G2, m1.drop, m3.weaken (fun b => Yab _) (fun b hb => Nat.le_trans (Zh3 b) (m3.cnt b hb)), m1.P.head.1, m2⟩
    obtain ⟨G2, m1, m2, m3, m4⟩ := step
    refine ⟨G2, m1, k2.trans m2, fun i v d hi hv hd => ?_⟩
    by_cases hin : i = n
    · subst hin
      rw [htm] at hv; simp at hv; subst hv
      rw [Ya4 hlt] at hd; simp at hd; subst hd
      simpa [List.getD] using ⟨m3, m4⟩
    · obtain ⟨q1, q2⟩ := k3 i v d (by omega) hv hd
      exact ⟨q1.mono m2.later, q2⟩
end
end Go.Abs
namespace Go.Abs
section
variable {P : Program} {F : Fr} {w : World} {G : Gh} {tm : List Value} {df : List Deferred} {k : List Item} {cs : List Frame} {s : St}
abbrev Zys (fn : FuncId) (tm : List Value) (ps : Array Tmp) (asg body : Code) (b : Nat) : Obj :=
  .loop { state := .ready, pending := none, fn := fn, tmps := tm.toArray, params := ps, assign := asg, body := body, defers := b }
theorem Zus (fn : FuncId) (ps : Array Tmp) (asg body : Code) :
    (Instr.enterLoop fn tm.toArray ps asg body none).run P w = .ok (w.heap.size + 1, [{ target := .collected w.heap.size, args := #[] }]) ((w.alloc (.deferred (some []))).alloc (Zys fn tm ps asg body w.heap.size)) := by
  simp [Instr.enterLoop]
theorem Zxf (hro : F.ro = none) {f : Operand} {g : FuncId} {vs us : Array Value} (hf : ev tm f = .func (.func g) vs us) (hc : Zne P g) {ps : Array Tmp} {asg body : Code} :
    step P (lone (mkF F tm df (.code (.rangeFunc f ps asg body) :: k)) cs w) =
      .next (lone (Frame.enter P g (vs ++ #[.func (.yield (w.heap.size + 1)) #[] #[]] ++ us) .normal) (mkF F tm ({ target := .collected w.heap.size, args := #[] } :: df) (.inRangeFunc (w.heap.size + 1) :: k) :: cs)
        ((w.alloc (.deferred (some []))).alloc (Zys F.fn tm ps asg body w.heap.size))) :=
  step_lone_go (by
    have h1 := Zus (P := P) (w := w) (tm := tm) F.fn ps asg body
    have h2 := Zlw hc (vs.push (.func (.yield (w.heap.size + 1)) #[] #[]) ++ us) ((w.alloc (.deferred (some []))).alloc (Zys F.fn tm ps asg body w.heap.size))
    have h3 := Zru F tm ({ target := .collected w.heap.size, args := #[] } :: df) (.inRangeFunc (w.heap.size + 1) :: k)
    simp only [mkF, hro] at h3
    have hev : ∀ v, ev tm (.const v) = v := fun _ => rfl
    simp [stepG, stepG.exec, mkF, hro, h1, stepG.apply, resolve, h3, hf, Deferred.ofValue, invoke, hev, h2])
theorem Zy0 {l : Nat} {L : Loop} (h : w.heap[l]? = some (.loop L)) (hs : L.state ≠ .busy) : (Instr.endLoop l).run P w = .ok L.pending (setB w l (.loop { L with state := .exhausted })) := by
  simp [Instr.endLoop, Instr.getLoop, getObj, Go.setObj, Sem.run, h, hs, setB]
theorem go_endLoop {l : Nat} {jump : Option Code} {w' : World} (h : (Instr.endLoop l).run P w = .ok jump w') :
    step P (lone (mkF F tm df (.endRangeFunc l :: k)) cs w) = .next (lone (mkF F tm df ((jump.map Item.code).toList ++ k)) cs w') :=
  step_lone_go (by simp [stepG, stepG.exec, mkF, h])
theorem Ztc {l : Nat} {L : Loop} (h : w.heap[l]? = some (.loop L)) (hs : L.state = .ready) : (Instr.beginRound l).run P w = .ok () (setB w l (.loop { L with state := .busy })) := by
  simp [Instr.beginRound, Instr.getLoop, getObj, Go.setObj, Sem.run, h, hs, setB]
theorem Zwq {l : Nat} {L : Loop} (h : w.heap[l]? = some (.loop L)) (jump : Option Code) :
    (Instr.endRound l jump).run P w = .ok (.bool jump.isNone) (setB w l (.loop { L with state := if jump.isNone then .ready else .done, pending := jump })) := by
  simp [Instr.endRound, Instr.getLoop, getObj, Go.setObj, Sem.run, h, setB]
theorem Zvv {l : Nat} (hro : F.ro = some l) {w' : World} (h : (Instr.beginRound l).run P w = .ok () w') :
    step P (lone (mkF F tm df (.beginRound :: k)) cs w) = .next (lone (mkF F tm df k) cs w') :=
  step_lone_go (by simp [stepG, stepG.exec, stepG.apply, mkF, hro, h, Frame.finish])
def Leaves (k : List Item) : Option Code → Prop
  | none => k = []
  | some .ret => ∃ k2, k = .code .ret :: k2
  | some (.exit id) => ∃ k2, k = .code (.exit id) :: k2 ∧ exitTo id k2 = none
  | some (.goto l) => ∃ k2, k = .code (.goto l) :: k2 ∧ gotoIn l k2 = none
  | _ => False
theorem go_endRound {fn : FuncId} {l : Nat} {jump : Option Code} (hk : Leaves k jump) {v : Value} {w' : World} (h : (Instr.endRound l jump).run P w = .ok v w') (c : Frame) :
    step P (lone (mkF ⟨fn, .normal, some l⟩ tm df k) (c :: cs) w) = .next (lone (c.finish v) cs w') :=
  step_lone_go (by
    unfold Leaves at hk
    split at hk
    · subst hk; simp [stepG, stepG.exec, mkF, h, doReturn]
    · obtain ⟨k2, rfl⟩ := hk; simp [stepG, stepG.exec, mkF, h, doReturn]
    · obtain ⟨k2, rfl, h2⟩ := hk; simp [stepG, stepG.exec, mkF, h, h2, doReturn]
    · obtain ⟨k2, rfl, h2⟩ := hk; simp [stepG, stepG.exec, mkF, h, h2, doReturn]
    · exact absurd hk id)
end
end Go.Abs
namespace Go.Abs
section
variable {P : Program} {F : Fr} {w : World} {G : Gh} {tm : List Value} {df : List Deferred} {k : List Item} {cs : List Frame} {s : St}
theorem enter_loop (h : Ok w G F tm df cs s) (hr : okRnd s = true) {f : Operand} {g : FuncId} {vs us : Array Value} (hf : ev tm f = .func (.func g) vs us) (hc : Zne P g) (ps : Array Tmp) (asg body : Code) :
    ∃ w1 bl df1 bd, step P (lone (mkF F tm df (.code (.rangeFunc f ps asg body) :: k)) cs w) =
        .next (lone (Frame.enter P g (vs ++ #[.func (.yield bl) #[] #[]] ++ us) .normal) (mkF F tm df1 (.inRangeFunc bl :: k) :: cs) w1) ∧
      w1.heap[bl]? = some (Zys F.fn tm ps asg body bd) ∧ w.heap.size ≤ bl ∧ (∀ b, b < w.heap.size → w1.heap[b]? = w.heap[b]?) ∧ w.heap.size ≤ w1.heap.size ∧
      (df1 = df ∨ ∃ bm, F.ro = none ∧ df1 = { target := .collected bm, args := #[] } :: df ∧ w.heap.size ≤ bm ∧ w1.heap[bm]? = some (.deferred (some []))) ∧ w1.os = w.os ∧ w1.output = w.output := by
  cases hro : F.ro with
  | none =>
    refine ⟨_, _, _, w.heap.size, Zxf hro hf hc, ?_, by omega, ?_, by simp; omega, .inr ⟨w.heap.size, rfl, rfl, Yab _, ?_⟩, rfl, rfl⟩
    · rw [Zha, if_pos (by simp)]
    · intro b hb
      rw [Zfw _ _ (by simp; omega), Zfw _ _ hb]
    · rw [Zfw _ _ (by simp), Zha, if_pos rfl]
  | some l0 =>
    have hrd : ∃ l, s.r = .rnd l ∧ G.ob[l]? = some l0 := by
      have := h.rc
      cases hs : s.r with
      | rnd l => rw [hs] at this; obtain ⟨b, h1, h2⟩ := this; rw [hro] at h1; cases h1; exact ⟨l, rfl, h2⟩
      | no => rw [hs] at this; rw [this] at hro; cases hro
      | nil => rw [hs] at this; rw [this.1] at hro; cases hro
      | avail d => rw [hs] at this; rw [this.1] at hro; cases hro
      | took => rw [hs] at this; rw [this.1] at hro; cases hro
    obtain ⟨l, hl, hob⟩ := hrd
    have hlp : ∃ L, w.heap[l0]? = some (.loop L) := by
      simp only [okRnd, hl] at hr
      unfold Zhl at hr
      split at hr
      · rename_i st pd fn env ps' asg' body' ho
        obtain ⟨tm', bd, h1, _⟩ := h.rel.H l l0 _ hob ho
        exact ⟨_, h1⟩
      · simp at hr
    obtain ⟨L, hL⟩ := hlp
    have hent : (Instr.enterLoop F.fn tm.toArray ps asg body (some l0)).run P w = .ok (w.heap.size, []) (w.alloc (Zys F.fn tm ps asg body L.defers)) := by
      simp [Instr.enterLoop, Instr.getLoop, getObj, Sem.run, hL]
    refine ⟨w.alloc (Zys F.fn tm ps asg body L.defers), w.heap.size, df, L.defers, ?_, ?_, Yab _, fun b hb => Zfw _ _ hb, by simp, .inl rfl, rfl, rfl⟩
    · exact step_lone_go (by
        have h2 := Zlw hc (vs.push (.func (.yield w.heap.size) #[] #[]) ++ us) (w.alloc (Zys F.fn tm ps asg body L.defers))
        have h3 := Zru F tm df (.inRangeFunc w.heap.size :: k)
        simp only [mkF, hro] at h3
        have hev : ∀ v, ev tm (.const v) = v := fun _ => rfl
        simp [stepG, stepG.exec, mkF, hro, hent, stepG.apply, resolve, h3, hf, Deferred.ofValue, invoke, hev, h2])
    · rw [Zha, if_pos rfl]
theorem cM_pos {l : List (FuncId × List D)} (h : RelDf w G df l) {b : Nat} (hb : 0 < cM df b) : w.heap[b]? = some (.deferred (some [])) := by
  induction h with
  | nil => simp [cM] at hb
  | fn g cap args ds df l hl h _ ih => exact ih (by simpa [cM] using hb)
  | mark b' df l h1 _ _ ih =>
    simp only [cM] at hb
    by_cases e : b' = b
    · subst e; exact h1
    · rw [if_neg e] at hb; exact ih (by omega)
theorem RelDf.cut {w0 : World} {G0 Gc : Gh} {l : List (FuncId × List D)} (h0 : RelDf w0 G0 df l) (h : RelDf w G df l) (k : Later w0 G0 w Gc) (hob : ∀ b ∈ Gc.ob, b ∈ G.ob) : RelDf w Gc df l := by
  induction h0 with
  | nil => exact .nil
  | fn g cap args ds df l hl h1 _ ih =>
    cases h with
    | fn _ _ _ _ _ _ _ h2 t => exact .fn g cap args ds df l hl (fun i v d hi hd => ⟨(h1 i v d hi hd).1.mono k, (h1 i v d hi hd).2⟩) (ih t)
  | mark b df l _ _ _ ih =>
    cases h with
    | mark _ _ _ h1 h2 t => exact .mark b df l h1 (fun hb => h2 (hob b hb)) (ih t)
theorem RelSt.gcS {w0 wa : World} {G0 Ga : Gh} {h' : List O} {c c' : Nat → Nat} (r0 : RelSt w0 G0 tm df [] [] s) (r : RelSt w G tm df [] [] { s with h := h' }) (la : Later wa Ga w0 G0) (l0 : Later w0 G0 w G) (e : Ext wa Ga c w G c') (hc' : ∀ b, cntS w G tm [] [] { s with h := h' } b ≤ c' b) :
    ∃ G', RelSt w G' tm df [] [] { s with h := Abs.gc s.h.length s.h h' Zaw } ∧ Ext wa Ga c w G' (fun b => cntS w G' tm [] [] { s with h := Abs.gc s.h.length s.h h' Zaw } b) := by
  unfold Abs.gc
  split
  · rename_i hk
    obtain ⟨hf, hn, hk⟩ := hk
    have hlen0 : G0.ob.length = s.h.length := r0.len
    have hlen : G.ob.length = h'.length := r.len
    have hob : G.ob.take s.h.length = G0.ob := by
      apply List.ext_getElem?
      intro i
      rw [List.getElem?_take]
      by_cases hi : i < s.h.length
      · rw [if_pos hi, Ya4 (show i < G0.ob.length by omega)]
        exact l0.ob i _ (Ya4 _)
      · rw [if_neg hi, List.getElem?_eq_none (by omega)]
    have hs : ∀ b, hsum w b (G.ob.take s.h.length) (h'.take s.h.length) ≤ hsum w b G.ob h' := fun b => Zsu b _ _ _
    have later : Later w0 G0 w (cutG G s.h.length) := ⟨fun i b hi => by simp only [cutG, hob]; exact hi, l0.S, l0.cell⟩
    refine ⟨cutG G s.h.length, { L := ?_, P := .nil _ _, len := ?_, nd := ?_, obS := ?_, H := ?_, S := r.S, one := ?_, noob := ?_, dfr := ?_ }, ?_⟩
    · exact ⟨r.L.len, fun i v d hi hd => (r0.L.rel i v d hi hd).mono later, fun i v d hi hd => r.L.leaf i v d hi hd⟩
    · simp only [cutG, List.length_take]; omega
    · exact List.Nodup.sublist (List.take_sublist _ _) r.nd
    · intro i b hb
      simp only [cutG, List.getElem?_take] at hb
      split at hb
      · rename_i hi
        refine ⟨(r.obS i b hb).1, fun hd => (r.obS i b hb).2 (fun e => hd ?_)⟩
        simp only; rw [List.getElem?_take, if_pos hi]; exact e
      · simp at hb
    · intro i b o h1 h2
      simp only [cutG, List.getElem?_take] at h1 h2
      split at h1
      · rename_i hi
        rw [if_pos hi] at h2
        have hro := r.H i b o h1 h2
        refine fitO_rel hro ?_
        have ho0 : s.h[i]? = some s.h[i] := Ya4 hi
        have hb0 : G0.ob[i]? = some (G0.ob[i]'(by omega)) := Ya4 _
        have f0 := relO_fit (r0.H i _ _ hb0 ho0)
        rw [hlen0] at f0
        rcases hk i hi _ _ ho0 h2 with ha | ha
        · generalize s.h[i] = o0 at ha f0
          cases ha with
          | refl => exact f0
          | loop => exact f0
        · cases ha with
          | cells cs h => exact h
          | map es h => exact h
          | dead => trivial
      · simp at h1
    · intro b; have := r.one b; have := hs b; simp only [cutG] at *; omega
    · intro b hb; have := r.noob b (List.mem_of_mem_take hb); have := hs b; simp only [cutG] at *; omega
    · exact r0.dfr.cut r.dfr later (fun b hb => List.mem_of_mem_take hb)
    · refine ⟨la.trans later, e.size, fun b hb => e.obnew b (List.mem_of_mem_take hb), e.Ssame, e.same, fun b hb => ?_, e.wo⟩
      · have a1 := e.cnt b hb; have a2 := hc' b; have a3 := hs b
        simp only [cntS, cutG] at *; omega
  · exact ⟨G, r, e.weaken (fun _ => Yab _) (fun b hb => Nat.le_trans (hc' b) (e.cnt b hb))⟩
theorem Zl8 {h : List O} {l : Nat} {st : LoopState} {pd : Option Code} {fn : FuncId} {env : List D} {ps : List Tmp} {asg body : Code}
    (hf : Zhl h l = some (st, pd, fn, env, ps, asg, body)) : h[l]? = some (.loop st pd fn env ps asg body) := by
  unfold Zhl at hf
  split at hf
  · rename_i h1; simp at hf; obtain ⟨rfl, rfl, rfl, rfl, rfl, rfl, rfl⟩ := hf; exact h1
  · simp at hf
theorem Zx2 {fn : FuncId} {f : Operand} {ps : Array Tmp} {asg body : Code} {g : FuncId} {first cap : List D} {rc : Out × List O} {r : Abs.X × St} (hk : okRnd s = true) (hf : rd s f = some (.func (.func g) first cap))
    (hno : (Zlu first && Zlu cap) = true)
    (hc : MC P (.fn g) (first ++ [.func (.yield s.h.length) [] []] ++ cap) (s.h ++ [.loop .ready none fn (s.t.map shrT) ps.toList asg body]) rc)
    (he : Zqs s rc = some r) : ME P fn (.rangeFunc f ps asg body) s r := by
  refine .of (by simp) fun F w G tm df k cs hF h' => ?_
  obtain ⟨hcal, hc⟩ := hc
  simp only [Zlu, Bool.and_eq_true, List.all_eq_true, Bool.not_eq_true'] at hno
  have rf := Zh1 h'.rel hf
  generalize hfv : ev tm f = fv at rf
  have rf2 : ∃ vs us, fv = .func (.func g) vs us ∧ vs.size = first.length ∧ us.size = cap.length := by
    cases rf with
    | func _ vs us _ _ l1 l2 _ _ => exact ⟨vs, us, rfl, l1, l2⟩
  obtain ⟨vs, us, rfl, l1, l2⟩ := rf2
  obtain ⟨w1, bl, df1, bd, hst, hbl, hge, hsame, hsz, hdf, hwo⟩ := enter_loop (k := k) h' hk hfv hcal ps asg body
  have hl := h'.rel.L.len
  obtain ⟨G1, s1, s2, s3⟩ := Zwn h'.rel tm.length (Yab _)
  rw [show (s.t.take tm.length).map kep ++ s.t.drop tm.length = s.t.map kep from by rw [hl]; simp] at s1 s2
  have s3' : ∀ (i : Nat) v d, tm[i]? = some v → s.t[i]? = some d → RelD w G1 v (shrT d) ∧ ∀ b, tokT b v (shrT d) = 0 := fun i v d hv hd => s3 i v d (List.getElem?_eq_some_iff.1 hv).1 hv hd
  obtain ⟨t1, t2⟩ := s1.world hsame hsz hwo
  have hcM : ∀ b, b < w.heap.size → cM df1 b = cM df b := by
    intro b hb
    rcases hdf with rfl | ⟨bm, _, rfl, hbm, _⟩
    · rfl
    · simp only [cM]; rw [if_neg (by omega)]; omega
  have hmks : ∀ b, cM df1 b ≤ 1 := by
    intro b
    rcases hdf with rfl | ⟨bm, _, rfl, hbm, _⟩
    · exact h'.mks b
    · simp only [cM]
      by_cases e : bm = b
      · subst e
        have : cM df bm = 0 := by
          rcases Nat.lt_or_ge 0 (cM df bm) with h0 | h0
          · have := Zik (cM_pos h'.rel.dfr h0); omega
          · omega
        simp [this]
      · rw [if_neg e]; have := h'.mks b; omega
  have u1 : RelSt w1 G1 tm df1 [] [] { s with t := s.t.map kep } := by
    rcases hdf with rfl | ⟨bm, _, rfl, hbm, hbm2⟩
    · exact t1
    · exact { L := t1.L, P := t1.P, len := t1.len, nd := t1.nd, obS := t1.obS, H := t1.H, S := t1.S, one := t1.one, noob := t1.noob
              dfr := .mark bm df _ hbm2 (fun hb => by have := s1.ob_lt hb; omega) t1.dfr }
  have hblt := Zik hbl
  have hbno : bl ∉ G1.ob := fun hb => by have := s1.ob_lt hb; omega
  have hbS : ∀ j, ¬ G1.S bl j := fun j hs => by have := s1.S_lt hs; omega
  have laterO : Later w G1 w1 { ob := G1.ob ++ [bl], S := G1.S } := t2.later.trans ⟨fun i b hi => by
    have := (List.getElem?_eq_some_iff.1 hi).1
    simp only; rw [List.getElem?_append_left this]; exact hi, fun _ _ h => h, fun _ _ _ => rfl⟩
  have ud := u1.dup (Zi6 w1 G1) Zep
  have hro : RelO w1 { ob := G1.ob ++ [bl], S := G1.S } bl (.loop .ready none fn (s.t.map shrT) ps.toList asg body) := by
    refine ⟨tm.toArray, bd, ?_, ⟨by simp [hl], fun i v d hi hd => ?_, fun i v d hi hd => ?_⟩, fun b => Zhd _ _ _ (fun i v d hi hd => ?_)⟩
    · rw [hbl, hF]
    · simp only [List.getElem?_map, Option.map_eq_some_iff] at hd
      obtain ⟨d0, hd0, rfl⟩ := hd
      exact (s3' i v d0 hi hd0).1.mono laterO
    · simp only [List.getElem?_map, Option.map_eq_some_iff] at hd
      obtain ⟨d0, hd0, rfl⟩ := hd
      exact Zga (s3' i v d0 hi hd0).2
    · simp only [List.getElem?_map, Option.map_eq_some_iff] at hd
      obtain ⟨d0, hd0, rfl⟩ := hd
      exact (s3' i v d0 hi hd0).2 b
  obtain ⟨v1, v2, v3⟩ := ud.addObj (o := .loop .ready none fn (s.t.map shrT) ps.toList asg body) hblt hbno hbS (by
      rcases Nat.lt_or_ge 0 (cntS w1 G1 tm [undef] [Zaw] { s with t := s.t.map kep } bl) with h0 | h0
      · obtain ⟨_, _, _, _, h3⟩ := ud.cnt_lt h0
        rw [hbl] at h3; cases h3
      · omega) hro (fun b' => by simp [Zg5]) (fun b' hb' e => by subst e; rw [hbl] at hb'; cases hb')
  have rf1 := (rf.mono s2.later).mono laterO
  have hlob : G1.ob.length = s.h.length := s1.len
  have hyl : RelD w1 { ob := G1.ob ++ [bl], S := G1.S } (.func (.yield bl) #[] #[]) (.func (.yield s.h.length) [] []) := .yield _ _ (by simp [← hlob])
  have hargs : RelSt w1 { ob := G1.ob ++ [bl], S := G1.S } tm df1 (vs.toList ++ [.func (.yield bl) #[] #[]] ++ us.toList) (first ++ [.func (.yield s.h.length) [] []] ++ cap) { s with t := s.t.map kep, h := s.h ++ [.loop .ready none fn (s.t.map shrT) ps.toList asg body] } ∧
      ∀ b, cntS w1 { ob := G1.ob ++ [bl], S := G1.S } tm (vs.toList ++ [.func (.yield bl) #[] #[]] ++ us.toList) (first ++ [.func (.yield s.h.length) [] []] ++ cap) { s with t := s.t.map kep, h := s.h ++ [.loop .ready none fn (s.t.map shrT) ps.toList asg body] } b =
        cntS w1 { ob := G1.ob ++ [bl], S := G1.S } tm [] [] { s with t := s.t.map kep, h := s.h ++ [.loop .ready none fn (s.t.map shrT) ps.toList asg body] } b := by
    cases rf1 with
    | func _ _ _ _ _ _ _ hd hcc =>
      obtain ⟨a1, a2⟩ := v1.more (vs := us.toList) (ds := cap) (by simpa using l2) (fun i v d hv hd' => ⟨hcc i v d (by simpa using hv) hd', hno.2 d (List.mem_of_getElem? hd')⟩)
      obtain ⟨b1, b2⟩ := a1.more (vs := [.func (.yield bl) #[] #[]]) (ds := [.func (.yield s.h.length) [] []]) rfl (fun i v d hv hd' => by
        cases i with
        | zero => simp at hv hd'; subst hv; subst hd'; exact ⟨hyl, rfl⟩
        | succ i => simp at hv)
      obtain ⟨c1, c2⟩ := b1.more (vs := vs.toList) (ds := first) (by simpa using l1) (fun i v d hv hd' => ⟨hd i v d (by simpa using hv) hd', hno.1 d (List.mem_of_getElem? hd')⟩)
      refine ⟨by simpa using c1, fun b => ?_⟩
      have := a2 b; have := b2 b; have := c2 b
      simp only [List.append_nil, List.append_assoc] at *; omega
  obtain ⟨c1, c2⟩ := hargs
  obtain ⟨d1, d2⟩ := (show RelSt w1 _ tm df1 (_ ++ []) (_ ++ []) _ by simpa using c1).args (pv := []) (pd := []) c1.P.len
  obtain ⟨w', G', fr, v, d, e1, e2, e3, e4, e5⟩ := hc w1 _ _ (mkF F tm df1 (.inRangeFunc bl :: k) :: cs) d1
  obtain ⟨q1, q2⟩ := Zxp c1 (fun b => Nat.le_of_eq (c2 b)) e3 e4
  have hst1 : Steps P (lone (mkF F tm df (.code (.rangeFunc f ps asg body) :: k)) cs w) (lone fr (mkF F tm df1 (.inRangeFunc bl :: k) :: cs) w') := by
    refine .head hst ?_
    have ea : (vs.toList ++ [Value.func (.yield bl) #[] #[]] ++ us.toList).toArray = vs ++ #[.func (.yield bl) #[] #[]] ++ us := by apply Array.ext'; simp
    rw [← ea]; exact e1
  have x0 : Ext w G (cntS w G tm [] [] s) w1 G1 (cntS w1 G1 tm [] [] { s with t := s.t.map kep }) := s2.trans t2
  have x1 : Ext w G (cntS w G tm [] [] s) w1 { ob := G1.ob ++ [bl], S := G1.S } (cntS w1 { ob := G1.ob ++ [bl], S := G1.S } tm [] [] { s with t := s.t.map kep, h := s.h ++ [.loop .ready none fn (s.t.map shrT) ps.toList asg body] }) := by
    refine ⟨x0.later.trans v3, x0.size, fun b hb => ?_, x0.Ssame, x0.same, fun b hb => ?_, x0.wo⟩
    · simp only [List.mem_append, List.mem_singleton] at hb
      rcases hb with hb | rfl
      · exact x0.obnew b hb
      · exact .inr (.inl hge)
    · have a1 := x0.cnt b hb; have a2 := v2 b; have a3 := Zep b
      simp only [cntS, sumZ] at *; omega
  have hro1 : F.ro ≠ none → df1 = df := fun hr => by
    rcases hdf with h1 | ⟨bm, h1, _⟩
    · exact h1
    · exact absurd h1 hr
  have x2 := x1.trans q2
  unfold Zqs at he
  rcases e5 with ⟨e5, e6⟩ | ⟨e5, e6, e7⟩
  · rw [e5] at he
    simp only at he
    split at he
    · rename_i st pd fn2 env2 ps2 asg2 body2 hfl
      split at he
      · simp at he
      · rename_i hnb
        have hlo := Zl8 hfl
        have hobl : G'.ob[s.h.length]? = some bl := q2.later.ob _ _ (by simp [← hlob])
        obtain ⟨tm2, bd2, hb2, _, _⟩ := q1.H _ _ _ hobl hlo
        have hrun : (Instr.endLoop bl).run P w' = .ok pd (setB w' bl (.loop { state := .exhausted, pending := pd, fn := fn2, tmps := tm2, params := ps2.toArray, assign := asg2, body := body2, defers := bd2 })) := Zy0 (P := P) hb2 hnb
        obtain ⟨y1, y2⟩ := q1.drop.setObj (o' := .dead) (x := .loop { state := .exhausted, pending := pd, fn := fn2, tmps := tm2, params := ps2.toArray, assign := asg2, body := body2, defers := bd2 }) hlo hobl rfl rfl (by simp) (fun _ => trivial)
        generalize setB w' bl (.loop { state := .exhausted, pending := pd, fn := fn2, tmps := tm2, params := ps2.toArray, assign := asg2, body := body2, defers := bd2 }) = w2 at hrun y1 y2
        have x3 := (x2.weaken (fun b => Yab _) (fun b hb => Nat.le_trans (Zh3 b) (x2.cnt b hb))).trans y2
        have l3 : Later w1 G1 w2 G' := v3.trans (q2.later.trans y2.later)
        obtain ⟨Gc, z1, z2⟩ := RelSt.gcS (s := { s with t := s.t.map kep }) u1 y1 x0.later l3 x3 (fun b => Yab _)
        have hgo : ∀ jump, pd = jump → Steps P (lone (mkF F tm df (.code (.rangeFunc f ps asg body) :: k)) cs w) (lone (mkF F tm df1 ((jump.map Item.code).toList ++ k)) cs w2) := fun jump hj => by
          subst hj
          refine hst1.trans (.head (step_leave_returned e6) (.one ?_))
          exact go_endLoop hrun
        have hOk : Ok w2 Gc F tm df1 cs { s with t := s.t.map kep, h := Abs.gc s.h.length s.h (rc.2.set s.h.length .dead) Zaw } := ⟨z1, h'.rc.keep z2.later, hmks⟩
        have hTo : To F w G tm df cs s w2 Gc tm df1 cs { s with t := s.t.map kep, h := Abs.gc s.h.length s.h (rc.2.set s.h.length .dead) Zaw } := by
          refine ⟨z2.weaken (fun b => by omega) (fun b hb => ?_), .refl _ _, hro1⟩
          have := z2.cnt b hb; have := hcM b hb; dsimp only at *; omega
        split at he
        · cases he; exact ⟨_, Gc, tm, df1, cs, hgo none rfl, hOk, hTo⟩
        · cases he; exact ⟨_, Gc, tm, df1, cs, ⟨k, hgo (some .ret) rfl⟩, hOk, hTo⟩
        · rename_i id; cases he; exact ⟨_, Gc, tm, df1, cs, ⟨k, rfl, hgo (some (.exit id)) rfl⟩, hOk, hTo⟩
        · rename_i l; cases he; exact ⟨_, Gc, tm, df1, cs, ⟨k, rfl, hgo (some (.goto l)) rfl⟩, hOk, hTo⟩
        · simp at he
    · simp at he
  · rw [e5] at he
    simp at he
    subst he
    refine ⟨w', G', tm, df1, cs, ⟨.inRangeFunc bl :: k, v, _, fun _ => rfl, rfl, hst1.trans (.one (step_leave_panicked e6)), e3.P.head.1, e7⟩, ⟨q1.drop, h'.rc.keep x2.later, hmks⟩, ⟨x2.weaken (fun b => by omega) (fun b hb => ?_), .refl _ _, hro1⟩⟩
    have a1 := x2.cnt b hb; have a2 := hcM b hb
    have a3 := Zh3 (w := w') (G := G') (tm := tm) (pv := []) (pd := []) (s := { s with t := s.t.map kep, h := rc.2 }) (v := v) (d := d) b
    dsimp only at *; omega
end
end Go.Abs
namespace Go.Abs
section
variable {P : Program} {F : Fr} {w : World} {G : Gh} {tm : List Value} {df : List Deferred} {k : List Item} {cs : List Frame} {s : St}
theorem Zov (hk : noCall k = true) {v : Value} {c : Frame} :
    step P (lone (panF F tm [] k v) (c :: cs) w) = .next (lone (c.raise [{ v := v, recovered := false }]) cs w) := by
  have hc : (panF F tm [] k v).catches P = false := by
    unfold Frame.catches
    split
    · rename_i h; simp only [panF, mkF] at h; subst h; simp [noCall] at hk
    · rfl
  exact step_lone_go (by
    simp only [panF, mkF] at hc
    simp [stepG, unwind, panF, mkF, hc])
theorem RelSt.fill : ∀ (ps : List Tmp) (vs : List Value) (ds : List D) (tm : List Value) (s : St), ps.length = vs.length → RelSt w G tm df vs ds s →
    RelSt w G ((ps.zip vs).foldl (fun t p => t.set p.1 p.2) tm) df [] [] { s with t := (ps.zip ds).foldl (fun t p => t.set p.1 p.2) s.t } ∧
      ∀ b, cntS w G ((ps.zip vs).foldl (fun t p => t.set p.1 p.2) tm) [] [] { s with t := (ps.zip ds).foldl (fun t p => t.set p.1 p.2) s.t } b ≤ cntS w G tm vs ds s b
  | [], [], [], tm, s, _, h => ⟨h, fun b => Yab _⟩
  | [], _ :: _, _, _, _, hl, _ => by simp at hl
  | _ :: _, [], _, _, _, hl, _ => by simp at hl
  | [], [], _ :: _, _, _, _, h => by have := h.P.len; simp at this
  | _ :: _, _ :: _, [], _, _, _, h => by have := h.P.len; simp at this
  | p :: ps, v :: vs, d :: ds, tm, s, hl, h => by
    obtain ⟨a1, a2⟩ := RelSt.fill ps vs ds (tm.set p v) { s with t := s.t.set p d } (by simpa using hl) (h.put p)
    refine ⟨by simpa using a1, fun b => ?_⟩
    have := a2 b
    have := cnt_put (w := w) (G := G) (pv := vs) (pd := ds) (v := v) (d := d) h.L.len p b
    simp only [List.zip_cons_cons, List.foldl_cons] at *; omega
theorem fill_array (ps : List Tmp) (vs : List Value) (tm : Array Value) :
    (((ps.toArray).zip vs.toArray).foldl (fun tmps (x : Tmp × Value) => tmps.setIfInBounds x.1 x.2) tm) = ((ps.zip vs).foldl (fun t p => t.set p.1 p.2) tm.toList).toArray := by
  have h : ∀ (l : List (Tmp × Value)) (tm : Array Value), l.foldl (fun tmps (x : Tmp × Value) => tmps.setIfInBounds x.1 x.2) tm = (l.foldl (fun t p => t.set p.1 p.2) tm.toList).toArray := by
    intro l
    induction l with
    | nil => intro tm; simp
    | cons x l ih => intro tm; simp only [List.foldl_cons]; rw [ih]; simp
  rw [← h]
  simp
theorem mc_round {l : Nat} {args : List D} {h : List O} {st : LoopState} {pd : Option Code} {fn : FuncId} {env : List D} {ps : List Tmp} {asg body : Code} {r q : Abs.X × St} {h1 : List O} {rc : Out × List O}
    (hfl : Zhl h l = some (st, pd, fn, env, ps, asg, body)) (hps : ps.length = args.length)
    (hA : ME P fn asg { t := (ps.zip args).foldl (fun t p => t.set p.1 p.2) env, d := [], r := .rnd l, h := h } r) (hX : r.1 = .nrm) (hb : Zld l r.2.h = some h1)
    (hB : ME P fn body { t := r.2.t, d := [], r := .rnd l, h := h1 } q) (ho : Zl2 l q.1 q.2 = some rc) : MC P (.round l) args h rc := by
  intro w G vs c cs b hob hrel
  have hloop := Zl8 hfl
  obtain ⟨tm0, bd, hL, hR, hz⟩ := hrel.H l b _ hob hloop
  have hlv := hrel.P.len
  refine ⟨_, hL, by simp; omega, ?_⟩
  have e0 : RelSt w G tm0.toList [] vs args { t := env, d := [], r := .rnd l, h := h } := by
    refine { L := hR, P := hrel.P, len := hrel.len, nd := hrel.nd, obS := hrel.obS, H := hrel.H, S := hrel.S, dfr := .nil, one := fun b' => ?_, noob := fun b' hb' => ?_ }
    · have := hrel.one b'; simp only [sumZ, hz b'] at *; omega
    · have := hrel.noob b' hb'; simp only [sumZ, hz b'] at *; omega
  have c0 : ∀ b', cntS w G tm0.toList vs args { t := env, d := [], r := .rnd l, h := h } b' = cntS w G [] vs args (hSt h) b' := fun b' => by simp only [cntS, sumZ, hz b']
  obtain ⟨f1, f2⟩ := RelSt.fill ps vs args tm0.toList _ (by omega) e0
  rw [show (({ state := st, pending := pd, fn := fn, tmps := tm0, params := ps.toArray, assign := asg, body := body, defers := bd } : Loop).params.zip vs.toArray).foldl (fun tmps (x : Tmp × Value) => tmps.setIfInBounds x.1 x.2)
    ({ state := st, pending := pd, fn := fn, tmps := tm0, params := ps.toArray, assign := asg, body := body, defers := bd } : Loop).tmps = ((ps.zip vs).foldl (fun t p => t.set p.1 p.2) tm0.toList).toArray from fill_array ps vs tm0]
  obtain ⟨w1, G1, tm1, df1, cs1, a1, a2, a3⟩ := hA.code (F := ⟨fn, .normal, some b⟩) (k := [.beginRound, .code body]) (cs := c :: cs) rfl ⟨f1, ⟨b, rfl, hob⟩, fun b => Nat.zero_le 1⟩
  obtain ⟨rX, rt, rd', rr, rh⟩ := r
  simp only at hX hb hB a1 a2 a3
  subst hX
  have hdf1 : df1 = [] := a3.ro (by simp)
  subst hdf1
  have hcs1 : rr = .rnd l ∧ cs1 = c :: cs := by
    rcases a3.cs with ⟨h1, h2⟩ | ⟨d, _, _, _, h1, _⟩
    · exact ⟨h1, h2⟩
    · cases h1
  obtain ⟨rfl, rfl⟩ := hcs1
  have hrd : rd' = [] := by have := a2.rel.dfr; simp only at this; generalize rd' = x at this; cases this; rfl
  subst hrd
  unfold Zld at hb
  split at hb
  · rename_i st1 pd1 fn1 env1 ps1 asg1 body1 hfl1
    split at hb
    · rename_i hready
      simp at hb
      subst hb
      have hloop1 := Zl8 hfl1
      have hob1 := a3.ext.later.ob _ _ hob
      obtain ⟨tm1', bd1, hL1, hR1, hz1⟩ := a2.rel.H l b _ hob1 hloop1
      have hrun := Ztc (P := P) hL1 hready
      obtain ⟨y1, y2⟩ := a2.rel.setObj (o' := .loop .busy pd1 fn1 env1 ps1 asg1 body1) (x := .loop { state := .busy, pending := pd1, fn := fn1, tmps := tm1', params := ps1.toArray, assign := asg1, body := body1, defers := bd1 }) hloop1 hob1 rfl rfl (by simp)
        (fun later => ⟨tm1', bd1, Zsa (Zik hL1), ⟨hR1.len, fun i v d hi hd => (hR1.rel i v d hi hd).mono later, fun i v d hi hd => Zga (fun b' => by
          have := Zjk (tokT b') _ _ i v d hi hd; have := hz1 b'; omega)⟩, hz1⟩)
      have hrun' : (Instr.beginRound b).run P w1 = .ok () (setB w1 b (.loop { state := .busy, pending := pd1, fn := fn1, tmps := tm1', params := ps1.toArray, assign := asg1, body := body1, defers := bd1 })) := hrun
      generalize setB w1 b (.loop { state := .busy, pending := pd1, fn := fn1, tmps := tm1', params := ps1.toArray, assign := asg1, body := body1, defers := bd1 }) = w2 at hrun' y1 y2
      have hob2 := y2.later.ob _ _ hob1
      obtain ⟨w3, G3, tm3, df3, cs3, b1, b2, b3⟩ := hB.code (F := ⟨fn, .normal, some b⟩) (k := []) (cs := c :: cs) rfl ⟨y1, ⟨b, rfl, hob2⟩, fun b => Nat.zero_le 1⟩
      obtain ⟨qX, qt, qd, qr, qh⟩ := q
      simp only at ho b1 b2 b3
      have hdf3 : df3 = [] := b3.ro (by simp)
      subst hdf3
      have hcs3 : qr = .rnd l ∧ cs3 = c :: cs := by
        rcases b3.cs with ⟨h1, h2⟩ | ⟨d, _, _, _, h1, _⟩
        · exact ⟨h1, h2⟩
        · cases h1
      obtain ⟨rfl, rfl⟩ := hcs3
      have hqd : qd = [] := by have := b2.rel.dfr; simp only at this; generalize qd = x at this; cases this; rfl
      subst hqd
      have hst0 : Steps P (lone (Frame.round b fn ((ps.zip vs).foldl (fun t p => t.set p.1 p.2) tm0.toList).toArray asg body .normal) (c :: cs) w) (lone (mkF ⟨fn, .normal, some b⟩ tm1 [] [.code body]) (c :: cs) w2) := by
        refine Steps.trans (show Steps P _ _ from a1) (.one (Zvv rfl hrun'))
      have x1 : Ext w G (cntS w G [] vs args (hSt h)) w3 G3 (fun b' => cntS w3 G3 tm3 [] [] { t := qt, d := [], r := .rnd l, h := qh } b') := by
        have z1 := a3.ext
        have z3 := b3.ext
        simp only [cM, Nat.add_zero] at z1 z3
        refine ((z1.trans y2).trans z3).weaken (fun b' => ?_) (fun b' hb' => ?_)
        · have := f2 b'; have := c0 b'; dsimp only at *; omega
        · have := ((z1.trans y2).trans z3).cnt b' hb'; have := f2 b'; have := c0 b'; dsimp only at *; omega
      have hob3 := b3.ext.later.ob _ _ hob2
      have fin : ∀ jump, Zlx l jump qh = some rc → (∃ k2, Leaves k2 jump ∧ Steps P (lone (mkF ⟨fn, .normal, some b⟩ tm1 [] [.code body]) (c :: cs) w2) (lone (mkF ⟨fn, .normal, some b⟩ tm3 [] k2) (c :: cs) w3)) →
          ∃ w' G' c' v d, Steps P (lone (Frame.round b fn ((ps.zip vs).foldl (fun t p => t.set p.1 p.2) tm0.toList).toArray asg body .normal) (c :: cs) w) (lone c' cs w') ∧ RelSt w' G' [] [] [v] [d] (hSt rc.2) ∧
            Ext w G (cntS w G [] vs args (hSt h)) w' G' (cntS w' G' [] [v] [d] (hSt rc.2)) ∧ ((rc.1 = .val d ∧ c' = c.finish v) ∨ (rc.1 = .pan d ∧ c' = c.raise [{ v := v, recovered := false }] ∧ ∀ b, tokT b v d = 0)) := by
        intro jump hre ⟨k2, hlv2, hst2⟩
        unfold Zlx at hre
        split at hre
        · rename_i st2 pd2 fn2 env2 ps2 asg2 body2 hfl2
          have hre' := Option.some.inj hre
          subst hre'
          have hloop2 := Zl8 hfl2
          obtain ⟨tm2', bd2, hL2, hR2, hz2⟩ := b2.rel.H l b _ hob3 hloop2
          have hrun2 : (Instr.endRound b jump).run P w3 = .ok (.bool jump.isNone) (setB w3 b (.loop { state := if jump.isNone then .ready else .done, pending := jump, fn := fn2, tmps := tm2', params := ps2.toArray, assign := asg2, body := body2, defers := bd2 })) := Zwq (P := P) hL2 jump
          obtain ⟨y3, y4⟩ := b2.rel.setObj (o' := .loop (if jump.isNone then .ready else .done) jump fn2 env2 ps2 asg2 body2) (x := .loop { state := if jump.isNone then .ready else .done, pending := jump, fn := fn2, tmps := tm2', params := ps2.toArray, assign := asg2, body := body2, defers := bd2 }) hloop2 hob3 rfl rfl (by simp)
            (fun later => ⟨tm2', bd2, Zsa (Zik hL2), ⟨hR2.len, fun i v d hi hd => (hR2.rel i v d hi hd).mono later, fun i v d hi hd => Zga (fun b' => by
              have := Zjk (tokT b') _ _ i v d hi hd; have := hz2 b'; omega)⟩, hz2⟩)
          have hb : RelD (setB w3 b (.loop { state := if jump.isNone then .ready else .done, pending := jump, fn := fn2, tmps := tm2', params := ps2.toArray, assign := asg2, body := body2, defers := bd2 })) G3 (.bool jump.isNone) (.e (.bool jump.isNone)) := .e _ _ (.bool _)
          obtain ⟨e1, e2⟩ := (y3.dup hb (fun b => e_tok b _ _)).bare
          refine ⟨_, G3, c.finish (.bool jump.isNone), .bool jump.isNone, .e (.bool jump.isNone), hst0.trans (hst2.trans (.one (go_endRound hlv2 hrun2 c))), e1, ?_, .inl ⟨rfl, rfl⟩⟩
          refine (x1.trans y4).weaken (fun b' => Yab _) (fun b' hb' => ?_)
          have a1 := (x1.trans y4).cnt b' hb'; have a2 := e2 b'
          have a3 := e_tok b' (.bool jump.isNone) (.bool jump.isNone)
          simp only [cntS, sumZ] at a1 a2 ⊢; omega
        · simp at hre
      unfold Zl2 at ho
      simp only at ho
      cases qX with
      | nrm => exact fin none ho ⟨[], rfl, b1⟩
      | ret => obtain ⟨k2, b1⟩ := b1; exact fin _ ho ⟨_, ⟨k2, rfl⟩, b1⟩
      | ext id => obtain ⟨k2, hk2, b1⟩ := b1; exact fin _ ho ⟨_, ⟨k2, rfl, by rw [hk2]; rfl⟩, b1⟩
      | gto id => obtain ⟨k2, hk2, b1⟩ := b1; exact fin _ ho ⟨_, ⟨k2, rfl, by rw [hk2]; rfl⟩, b1⟩
      | pan d =>
        simp at ho
        subst ho
        obtain ⟨k2, v, tX, _, hnc, b1, b4, b5⟩ := b1
        obtain ⟨e1, e2⟩ := (b2.rel.dup b4 b5).bare
        refine ⟨w3, G3, _, v, d, hst0.trans (b1.trans (.one (Zov hnc))), e1, ?_, .inr ⟨rfl, rfl, b5⟩⟩
        refine x1.weaken (fun b' => Yab _) (fun b' hb' => ?_)
        have a1 := x1.cnt b' hb'; have a2 := e2 b'; have a3 := b5 b'
        simp only [cntS, sumZ] at *; omega
    · simp at hb
  · simp at hb
end
end Go.Abs
