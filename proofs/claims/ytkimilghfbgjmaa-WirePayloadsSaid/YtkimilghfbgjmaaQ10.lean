/-
  A REGION's OPERATIONS, one behind the other, on the machine. CALLS: what a call owes, and an operation that is one. DEFERRED CALLS, when a frame unwinds. HOW A CALL ENDS: of a deferred function. OBJECTS THAT A CALL MADE and nobody speaks of are forgotten. No condition.
-/
import Derived.Test.YtkimilghfbgjmaaQ09

open List renaming append_nil → Yaf, getElem?_eq_getElem → Ya4, mem_of_getElem? → Yaa
open Nat renaming le_refl → Yab
namespace Go.Abs
section
variable {P : Program} {F : Fr} {w : World} {G : Gh} {tm : List Value} {df : List Deferred} {k : List Item} {cs : List Frame} {s : St}
theorem bool_rel {v : Value} {d : D} {b : Bool} (h : RelD w G v d) (hv : v = .bool b) : d = .e (.bool b) := by
  subst hv
  cases h with
  | e _ _ h => cases h; rfl
theorem Zrg (h : RelSt w G tm df [] [] s) (all : Array Oper) (o : Oper) : Region.wanted o (yielded all tm.toArray) = want all o s := by
  unfold want Region.wanted
  cases hg : o.guard with
  | none => simp
  | some g =>
    obtain ⟨j, b⟩ := g
    simp only [yielded]
    cases hd : (all[j]?).bind (·.dst) with
    | none => simp
    | some t =>
      have hl := h.L.len
      simp only [Option.bind_some, List.getElem?_toArray]
      cases htm : tm[t]? with
      | none =>
        have hlt := List.getElem?_eq_none_iff.1 htm
        rw [List.getElem?_eq_none (show s.t.length ≤ t by omega)]
        simp
      | some v =>
        have hlt := (List.getElem?_eq_some_iff.1 htm).1
        have hst : s.t[t]? = some s.t[t] := Ya4 (by omega)
        have hr := h.L.rel t v _ htm hst
        rw [hst]
        cases hv : v with
        | bool c =>
          have := bool_rel hr hv
          rw [this]
          simp
        | _ =>
          have hne : ∀ c, s.t[t] ≠ D.e (.bool c) := by
            intro c e
            rw [e] at hr
            have := Ziz hr
            rw [this] at hv; cases hv
          have hR : (match some s.t[t] with | some (.e (.bool c)) => c == b | _ => false) = false := by
            split
            · rename_i c hc
              simp at hc
              exact absurd hc (hne c)
            · rfl
          exact Eq.trans (by rfl) hR.symm
theorem Ok.put {w' : World} {G' : Gh} {s1 : St} {v : Value} {d : D} {df' : List Deferred} {cs' : List Frame} (h : RelSt w' G' tm df' [v] [d] s1) (hr : RcOK w' G' F cs' s1.r) (hm : ∀ b, cM df' b ≤ 1) (dst : Option Tmp) :
    Ok w' G' F (putV tm dst v) df' cs' (s1.put dst d) ∧ ∀ b, cntS w' G' (putV tm dst v) [] [] (s1.put dst d) b ≤ cntS w' G' tm [v] [d] s1 b := by
  cases dst with
  | none => exact ⟨⟨h.drop, hr, hm⟩, fun b => Zh3 b⟩
  | some t => exact ⟨⟨h.put t, hr, hm⟩, fun b => cnt_put h.L.len t b⟩
theorem put_r (s : St) (dst : Option Tmp) (d : D) : (s.put dst d).r = s.r := by cases dst <;> rfl
theorem Arr.put {all : Array Oper} {is : List Nat} {m : Machine} {o : Oper} {w' : World} {G' : Gh} {s1 s2 : St} {v : Value} {d : D} {X : X} {df' : List Deferred} {cs' : List Frame}
    (hst : Steps P m (lone (mkF F (putV tm o.dst v) df' (.inRegion all is :: k)) cs' w')) (h : RelSt w' G' tm df' [v] [d] s1) (hr : RcOK w' G' F cs' s1.r) (hm : ∀ b, cM df' b ≤ 1)
    (he : Ext w G (fun b => cntS w G tm [] [] s b + cM df b) w' G' (fun b => cntS w' G' tm [v] [d] s1 b + cM df' b)) (hc : CsTo s.r s1.r cs cs') (hro : F.ro ≠ none → df' = df)
    (g : Ok w' G' F (putV tm o.dst v) df' cs' (s1.put o.dst d) → Arr P (lone (mkF F (putV tm o.dst v) df' (.inRegion all is :: k)) cs' w') F w' G' (putV tm o.dst v) df' k cs' (s1.put o.dst d) X s2) :
    Arr P m F w G tm df k cs s X s2 := by
  obtain ⟨q1, q2⟩ := Ok.put h hr hm o.dst
  obtain ⟨w2, G2, tm2, df2, cs2, a1, a2, a3⟩ := g q1
  refine ⟨w2, G2, tm2, df2, cs2, a1.of_steps hst, a2, ?_⟩
  have t1 : To F w G tm df cs s w' G' (putV tm o.dst v) df' cs' (s1.put o.dst d) :=
    ⟨he.weaken (fun _ => Yab _) (fun b hb => by have := he.cnt b hb; have := q2 b; omega), by rw [put_r]; exact hc, hro⟩
  exact t1.trans a3
theorem Zvt {all : Array Oper} {is : List Nat} {o : Oper} {rest : List Oper} (h : is.map (fun i => all[i]?) = (o :: rest).map some) : ∃ i is', is = i :: is' ∧ all[i]? = some o ∧ is'.map (fun i => all[i]?) = rest.map some := by
  cases is with
  | nil => simp at h
  | cons i is' => simp at h; exact ⟨i, is', rfl, h.1, h.2⟩
theorem mo_skip {all : Array Oper} {o : Oper} {rest : List Oper} {r : Abs.X × St} (hw : want all o s = false) (h : MO P all rest (s.put o.dst Zaw) r) : MO P all (o :: rest) s r := by
  intro F w G tm df k cs is hi h'
  obtain ⟨i, is', rfl, ho, hi'⟩ := Zvt hi
  have hst := go_unwanted (P := P) (F := F) (tm := tm) (df := df) (k := k) (cs := cs) (w := w) (is := is') ho (by rw [Zrg h'.rel]; exact hw)
  exact Arr.put (.one hst) (h'.rel.dup (Zi6 w G) Zep) h'.rc h'.mks
    ((Ext.refl w G _).weaken (fun _ => Yab _) (fun b _ => by have := Zep b; simp only [cntS, sumZ]; omega)) (.refl _ _) (fun _ => rfl)
    (fun hk => h F w G _ df k cs is' hi' hk)
theorem mo_val {all : Array Oper} {o : Oper} {rest rest' : List Oper} {r : Abs.X × St} {d : D} {s1 : St} (hw : want all o s = true) (hx : exOp P rest' o s = some (.val d, s1)) (h : MO P all rest (s1.put o.dst d) r) : MO P all (o :: rest) s r := by
  intro F w G tm df k cs is hi h'
  obtain ⟨i, is', rfl, ho, hi'⟩ := Zvt hi
  have hww : Region.wanted o (yielded all tm.toArray) = true := by rw [Zrg h'.rel]; exact hw
  by_cases hdf : ∃ c, o.op = .defer c
  · obtain ⟨c, hc⟩ := hdf
    obtain ⟨G', g, cap, args, ds, rfl, q1, q2, q3, q4, q5, q6, q7⟩ := op_defer h'.rel hc hx
    have hro : F.ro = none := by
      have := h'.rc
      cases hr : s.r with
      | rnd l => exact absurd hr (q5 l)
      | no => rw [hr] at this; exact this
      | nil => rw [hr] at this; exact this.1
      | avail d => rw [hr] at this; exact this.1
      | took => rw [hr] at this; exact this.1
    have hcm : ∀ b, cM ({ target := .fn (.func g) cap, args := args } :: df) b = cM df b := fun b => by simp [cM]
    refine Arr.put (v := undef) (d := Zaw) (df' := { target := .fn (.func g) cap, args := args } :: df) (cs' := cs) (.one (go_defer ho hww hro q1)) (q6.dup (Zi6 w G') Zep) (by rw [q4]; exact h'.rc.keep q7.later) (fun b => by rw [hcm]; exact h'.mks b) ?_ (by rw [q4]; exact .refl _ _) (fun hr => absurd hro hr)
      (fun hk => h F w G' _ _ k cs is' hi' hk)
    refine q7.weaken (fun b => by omega) (fun b hb => ?_)
    have := q7.cnt b hb; have := Zep b; have := hcm b
    simp only [cntS, sumZ] at *; omega
  · have hnd : ∀ c, o.op ≠ .defer c := fun c hc => hdf ⟨c, hc⟩
    by_cases hrc : ∃ c, o.op = .call c ∧ c.callee = .builtin .recover
    · obtain ⟨c, hc, hcc⟩ := hrc
      simp only [exOp, hc, hcc] at hx
      unfold Zge at hx
      split at hx
      all_goals try contradiction
      have hrun := op_recover (P := P) (tm := tm) hc hcc w
      have hrc := h'.rc
      split at hx
      · rename_i d0 hr
        simp at hx; obtain ⟨rfl, rfl⟩ := hx
        rw [hr] at hrc
        obtain ⟨h1, h2, c0, t, v, rfl, h4, h5, h6⟩ := hrc
        refine Arr.put (v := v) (d := d0) (df' := df) (cs' := { c0 with mode := .panicking [{ v := v, recovered := true }] } :: t) (.one (Zsy ho hww h1 h2 h4 hrun)) ?_ ?_ h'.mks ?_ ?_ (fun _ => rfl) (fun hk => h F w G _ _ k _ is' hi' hk)
        · exact { L := h'.rel.L, P := h'.rel.P.cons h5 (Zga h6), len := h'.rel.len, nd := h'.rel.nd, obS := h'.rel.obS, H := h'.rel.H, S := h'.rel.S, dfr := h'.rel.dfr
                  one := fun b => by have := h'.rel.one b; simp only [sumZ, h6 b] at *; omega
                  noob := fun b hb => by have := h'.rel.noob b hb; simp only [sumZ, h6 b] at *; omega }
        · exact ⟨h1, h2, _, t, v, rfl, rfl⟩
        · refine (Ext.refl w G _).weaken (fun _ => Yab _) (fun b _ => ?_)
          have := h6 b; simp only [cntS, sumZ]; omega
        · exact .inr ⟨d0, c0, t, v, hr, rfl, rfl, h4, rfl⟩
      · rename_i hr
        simp at hx; obtain ⟨rfl, rfl⟩ := hx
        rw [hr] at hrc
        obtain ⟨h1, h2, c0, t, v, rfl, h4⟩ := hrc
        refine Arr.put (v := .nilIface) (d := .e .nilif) (df' := df) (cs' := c0 :: t) (.one (Zoq ho hww h1 h2 (.inr ⟨v, h4⟩) hrun)) (h'.rel.dup (.e _ _ .nilif) (fun b => e_tok b _ _)) h'.rc h'.mks ?_ (.refl _ _) (fun _ => rfl) (fun hk => h F w G _ _ k _ is' hi' hk)
        refine (Ext.refl w G _).weaken (fun _ => Yab _) (fun b _ => ?_)
        have := e_tok b .nilIface .nilif; simp only [cntS, sumZ]; omega
      · rename_i hr
        simp at hx; obtain ⟨rfl, rfl⟩ := hx
        rw [hr] at hrc
        obtain ⟨h1, h2, c0, t, rfl, h4⟩ := hrc
        refine Arr.put (v := .nilIface) (d := .e .nilif) (df' := df) (cs' := c0 :: t) (.one (Zoq ho hww h1 h2 (.inl h4) hrun)) (h'.rel.dup (.e _ _ .nilif) (fun b => e_tok b _ _)) h'.rc h'.mks ?_ (.refl _ _) (fun _ => rfl) (fun hk => h F w G _ _ k _ is' hi' hk)
        refine (Ext.refl w G _).weaken (fun _ => Yab _) (fun b _ => ?_)
        have := e_tok b .nilIface .nilif; simp only [cntS, sumZ]; omega
      · simp at hx
      · simp at hx
    · obtain ⟨w', G', nx, v, q1, q2, q3, q4, q5, q6⟩ := op_all h'.rel hx hnd (fun c hc hcc => hrc ⟨c, hc, hcc⟩)
      refine Arr.put (v := v) (d := d) (df' := df) (cs' := cs) (.one (go_oper ho hww (.inr hnd) q1 q2)) q3 (by rw [q6]; exact h'.rc.keep q4.later) h'.mks ?_ (by rw [q6]; exact .refl _ _) (fun _ => rfl) (fun hk => h F w' G' _ _ k _ is' hi' hk)
      exact q4.weaken (fun b => by omega) (fun b hb => by have := q4.cnt b hb; omega)
theorem mo_pan {all : Array Oper} {o : Oper} {rest : List Oper} {d : D} {s1 : St} (hw : want all o s = true) (hx : exOp P rest o s = some (.pan d, s1)) : MO P all (o :: rest) s (.pan d, s1) := by
  intro F w G tm df k cs is hi h'
  obtain ⟨i, is', rfl, ho, hi'⟩ := Zvt hi
  have hww : Region.wanted o (yielded all tm.toArray) = true := by rw [Zrg h'.rel]; exact hw
  obtain ⟨rfl, hnd, v, q1, q2, q3⟩ := op_pan h'.rel hx
  exact ⟨w, G, tm, df, cs, ⟨_, v, tm, fun _ => rfl, rfl, .one (go_panic ho hww (.inr hnd) q1), q2, q3⟩, h', .refl _ _ _ _ _ _ _⟩
end
end Go.Abs
namespace Go.Abs
def Zne (P : Program) (f : FuncId) : Prop := ∃ fn, P.funcs[f]? = some fn ∧ Zo4 fn ≠ none
theorem Zlw {P : Program} {f : FuncId} (h : Zne P f) (args : Array Value) (w : World) : (callFunc f args).run P w = .ok (.enter f args) w := by
  obtain ⟨fn, h1, h2⟩ := h
  unfold Zo4 at h2
  split at h2
  · exact absurd rfl h2
  · rename_i hn
    have hb : fn.body.isNone = false := by cases hb : fn.body <;> simp_all
    have hn' : fn.name ≠ "runtime.NumGoroutine" := by simpa using hn
    simp [callFunc, h1, hn', h2]
def MdOK (w : World) (G : Gh) (m : FrameMode) : Option D → Prop
  | none => m = .returning
  | some d => ∃ v, m = .panicking [{ v := v, recovered := false }] ∧ RelD w G v d ∧ ∀ b, tokT b v d = 0
abbrev hSt (h : List O) : St := { t := [], d := [], r := .no, h := h }
def MC (P : Program) (g : Tgt) (args : List D) (h : List O) (r : Out × List O) : Prop :=
  match g with
  | .fn f => Zne P f ∧ ∀ (w : World) (G : Gh) (vs : List Value) (cs : List Frame), RelSt w G [] [] vs args (hSt h) →
      ∃ w' G' fr v d, Steps P (lone (Frame.enter P f vs.toArray .normal) cs w) (lone fr cs w') ∧ fr.fn = f ∧ RelSt w' G' [] [] [v] [d] (hSt r.2) ∧
        Ext w G (cntS w G [] vs args (hSt h)) w' G' (cntS w' G' [] [v] [d] (hSt r.2)) ∧
        ((r.1 = .val d ∧ fr.leaving P w' (.returned v)) ∨ (r.1 = .pan d ∧ fr.leaving P w' (.panicked [{ v := v, recovered := false }]) ∧ ∀ b, tokT b v d = 0))
  | .round l => ∀ (w : World) (G : Gh) (vs : List Value) (c : Frame) (cs : List Frame) (b : Nat), G.ob[l]? = some b → RelSt w G [] [] vs args (hSt h) →
      ∃ L, w.heap[b]? = some (.loop L) ∧ L.params.size = vs.length ∧ ∃ w' G' c' v d,
        Steps P (lone (Frame.round b L.fn ((L.params.zip vs.toArray).foldl (fun tmps (x : Tmp × Value) => tmps.setIfInBounds x.1 x.2) L.tmps) L.assign L.body .normal) (c :: cs) w) (lone c' cs w') ∧
        RelSt w' G' [] [] [v] [d] (hSt r.2) ∧ Ext w G (cntS w G [] vs args (hSt h)) w' G' (cntS w' G' [] [v] [d] (hSt r.2)) ∧
        ((r.1 = .val d ∧ c' = c.finish v) ∨ (r.1 = .pan d ∧ c' = c.raise [{ v := v, recovered := false }] ∧ ∀ b, tokT b v d = 0))
  | .dfn f u => Zne P f ∧ ∀ (w : World) (G : Gh) (vs : List Value) (c : Frame) (cs : List Frame), RelSt w G [] [] vs args (hSt h) → MdOK w G c.mode u →
      ∃ w' G' c', Steps P (lone (Frame.enter P f vs.toArray .deferred) (c :: cs) w) (lone c' cs w') ∧ RelSt w' G' [] [] [] [] (hSt r.2) ∧
        Ext w G (cntS w G [] vs args (hSt h)) w' G' (cntS w' G' [] [] [] (hSt r.2)) ∧
        (((∃ d, r.1 = .val d) ∧ c' = c) ∨ ((∃ d, r.1 = .rcv d) ∧ u ≠ none ∧ c' = { c with mode := .returning }))
section
variable {P : Program} {F : Fr} {w : World} {G : Gh} {tm : List Value} {df : List Deferred} {k : List Item} {cs : List Frame} {s : St}
theorem RelSt.args {vs pv : List Value} {ds pd : List D} (h : RelSt w G tm df (vs ++ pv) (ds ++ pd) s) (hl : vs.length = ds.length) :
    RelSt w G [] [] vs ds (hSt s.h) ∧ ∀ b, cntS w G [] vs ds (hSt s.h) b + sumZ (tokT b) tm s.t + sumZ (tokT b) pv pd = cntS w G tm (vs ++ pv) (ds ++ pd) s b := by
  have hp : ∀ b, sumZ (tokT b) (vs ++ pv) (ds ++ pd) = sumZ (tokT b) vs ds + sumZ (tokT b) pv pd := fun b => Zgo _ _ _ _ _ hl
  refine ⟨{ L := .nil w G, P := (h.P.split hl).1, len := h.len, nd := h.nd, obS := h.obS, H := h.H, S := h.S, one := ?_, noob := ?_, dfr := .nil }, ?_⟩
  · intro b; have := h.one b; simp only [hp, sumZ] at *; omega
  · intro b hb; have := h.noob b hb; simp only [hp, sumZ] at *; omega
  · intro b; simp only [cntS, hp, sumZ]; omega
theorem RelSt.more {vs pv : List Value} {ds pd : List D} (h : RelSt w G tm df pv pd s) (hl : vs.length = ds.length) (h1 : ∀ (i : Nat) v d, vs[i]? = some v → ds[i]? = some d → RelD w G v d ∧ ownD d = false) :
    RelSt w G tm df (vs ++ pv) (ds ++ pd) s ∧ ∀ b, cntS w G tm (vs ++ pv) (ds ++ pd) s b = cntS w G tm pv pd s b := by
  have hz : ∀ b, sumZ (tokT b) vs ds = 0 := fun b => Zhd _ _ _ (fun i v d hi hd => Zhc (h1 i v d hi hd).1 (h1 i v d hi hd).2)
  have hp : ∀ b, sumZ (tokT b) (vs ++ pv) (ds ++ pd) = sumZ (tokT b) pv pd := fun b => by rw [Zgo _ _ _ _ _ hl, hz]; omega
  refine ⟨{ L := h.L, P := ?_, len := h.len, nd := h.nd, obS := h.obS, H := h.H, S := h.S, one := ?_, noob := ?_, dfr := h.dfr }, ?_⟩
  · exact RelL.append ⟨hl, fun i v d hi hd => (h1 i v d hi hd).1, fun i v d hi hd => Zga (fun b => Zhc (h1 i v d hi hd).1 (h1 i v d hi hd).2)⟩ h.P
  · intro b; have := h.one b; simp only [hp] at *; omega
  · intro b hb; have := h.noob b hb; simp only [hp] at *; omega
  · intro b; simp only [cntS, hp]
theorem Zxp {vs : List Value} {ds : List D} {s1 : St} {c : Nat → Nat} (h : RelSt w G tm df vs ds s1) (hc : ∀ b, cntS w G tm vs ds s1 b ≤ c b) {w' : World} {G' : Gh} {v : Value} {d : D} {h2 : List O}
    (k : RelSt w' G' [] [] [v] [d] (hSt h2)) (e : Ext w G (cntS w G [] vs ds (hSt s1.h)) w' G' (cntS w' G' [] [v] [d] (hSt h2))) :
    RelSt w' G' tm df [v] [d] { s1 with h := h2 } ∧ Ext w G c w' G' (cntS w' G' tm [v] [d] { s1 with h := h2 }) := by
  have hl := h.P.len
  have h' : RelSt w G tm df (vs ++ []) (ds ++ []) s1 := by simpa using h
  obtain ⟨_, a2⟩ := h'.args hl
  obtain ⟨q1, q2⟩ := h'.back (tm2 := []) (df2 := []) hl k e (fun b => by have := a2 b; omega) (fun b => by simp only [cntS, sumZ]; omega)
  refine ⟨by simpa using q1, q2.weaken (fun b => by have := hc b; simpa using this) (fun b hb => ?_)⟩
  have := q2.cnt b hb; have := hc b
  simp only [Yaf] at *; omega
theorem mo_go {all : Array Oper} {o : Oper} {rest : List Oper} {r : Abs.X × St} {g : Tgt} {args : List D} {s1 : St} {rc : Out × List O} (hw : want all o s = true) (hk : Zfy o s = .go g args s1) (hc : MC P g args s1.h rc)
    (h2 : (∃ d, rc.1 = .val d ∧ MO P all rest (({ s1 with h := rc.2 } : St).put o.dst d) r) ∨ (∃ d, rc.1 = .pan d ∧ r = (.pan d, { s1 with h := rc.2 }))) : MO P all (o :: rest) s r := by
  intro F w G tm df k cs is hi h'
  obtain ⟨i, is', rfl, ho, hi'⟩ := Zvt hi
  have hww : Region.wanted o (yielded all tm.toArray) = true := by rw [Zrg h'.rel]; exact hw
  have fin : ∀ (w' : World) (G' : Gh) (vs : List Value) (ds : List D) (v : Value) (d : D), RelSt w G tm df vs ds s1 → (∀ b, cntS w G tm vs ds s1 b ≤ cntS w G tm [] [] s b) → s1.r = s.r →
      RelSt w' G' [] [] [v] [d] (hSt rc.2) → Ext w G (cntS w G [] vs ds (hSt s1.h)) w' G' (cntS w' G' [] [v] [d] (hSt rc.2)) →
      ((rc.1 = .val d ∧ Steps P (lone (mkF F tm df (.inRegion all (i :: is') :: k)) cs w) (lone (mkF F (putV tm o.dst v) df (.inRegion all is' :: k)) cs w')) ∨
        (rc.1 = .pan d ∧ Steps P (lone (mkF F tm df (.inRegion all (i :: is') :: k)) cs w) (lone (panF F tm df (.inRegion all (i :: is') :: k) v) cs w') ∧ ∀ b, tokT b v d = 0)) →
      Arr P (lone (mkF F tm df (.inRegion all (i :: is') :: k)) cs w) F w G tm df k cs s r.1 r.2 := by
    intro w' G' vs ds v d m1 m2 m3 k1 k2 hs
    obtain ⟨q1, q2⟩ := Zxp m1 m2 k1 k2
    rcases hs with ⟨hv, hst⟩ | ⟨hp, hst, ht⟩
    · rcases h2 with ⟨d', e1, h2⟩ | ⟨d', e1, _⟩
      · rw [hv] at e1; cases e1
        refine Arr.put (v := v) (d := d) hst q1 (by rw [show ({ s1 with h := rc.2 } : St).r = s.r from m3]; exact h'.rc.keep q2.later) h'.mks ?_ (by rw [show ({ s1 with h := rc.2 } : St).r = s.r from m3]; exact .refl _ _) (fun _ => rfl)
          (fun hk => h2 F w' G' _ _ k _ is' hi' hk)
        exact q2.weaken (fun b => by omega) (fun b hb => by have := q2.cnt b hb; omega)
      · rw [hv] at e1; cases e1
    · rcases h2 with ⟨d', e1, _⟩ | ⟨d', e1, rfl⟩
      · rw [hp] at e1; cases e1
      · rw [hp] at e1; cases e1
        refine ⟨w', G', tm, df, cs, ⟨_, v, tm, fun _ => rfl, rfl, hst, (k1.P.head).1, ht⟩, ⟨q1.drop, by rw [show ({ s1 with h := rc.2 } : St).r = s.r from m3]; exact h'.rc.keep q2.later, h'.mks⟩, ⟨?_, by rw [show ({ s1 with h := rc.2 } : St).r = s.r from m3]; exact .refl _ _, fun _ => rfl⟩⟩
        exact q2.weaken (fun b => by omega) (fun b hb => by dsimp only; have := q2.cnt b hb; have := Zh3 (w := w') (G := G') (tm := tm) (pv := []) (pd := []) (s := { s1 with h := rc.2 }) (v := v) (d := d) b; omega)
  unfold Zfy at hk
  split at hk
  · rename_i c hop
    have hnd : ∀ c', o.op ≠ .defer c' := by rw [hop]; simp
    split at hk
    · rename_i f hcal
      split at hk
      · rename_i g0 first cap ds s1' hrd htk
        split at hk
        · rename_i hno
          simp only [Kind.go.injEq] at hk
          obtain ⟨rfl, rfl, rfl⟩ := hk
          simp only [Zlu, Bool.and_eq_true, List.all_eq_true, Bool.not_eq_true'] at hno
          have rf := Zh1 h'.rel hrd
          generalize hfv : ev tm f = fv at rf
          cases rf with
          | func _ vs us _ _ l1 l2 hd hcc =>
            obtain ⟨a1, a2⟩ := h'.rel.more (vs := us.toList) (ds := cap) (by simpa using l2) (fun i v d hv hd' => ⟨hcc i v d (by simpa using hv) hd', hno.2 d (Yaa hd')⟩)
            obtain ⟨b1, b2, b3, b4, b5, b6⟩ := Zuo _ a1 htk
            obtain ⟨c1, c2⟩ := b1.more (vs := vs.toList) (ds := first) (by simpa using l1) (fun i v d hv hd' => ⟨hd i v d (by simpa using hv) hd', hno.1 d (Yaa hd')⟩)
            have c1' : RelSt w G tm df (vs.toList ++ (c.args.toList.map (ev tm) ++ us.toList)) (first ++ ds ++ cap) s1' := by simpa using c1
            have hl := c1'.P.len
            obtain ⟨d1, d2⟩ := (show RelSt w G tm df ((vs.toList ++ (c.args.toList.map (ev tm) ++ us.toList)) ++ []) ((first ++ ds ++ cap) ++ []) s1' by simpa using c1').args hl
            obtain ⟨hcal1, hcal2⟩ := hc
            obtain ⟨w', G', fr, v, d, e1, e2, e3, e4, e5⟩ := hcal2 w G _ (mkF F tm df (.inRegion all (i :: is') :: k) :: cs) d1
            have hrun : (execOp (ev tm) o).run P w = .ok (.enter g0 (vs.toList ++ (c.args.toList.map (ev tm) ++ us.toList)).toArray) w := by
              have := Zlw hcal1 (vs ++ c.args.map (ev tm) ++ us) w
              have ea : (vs.toList ++ (c.args.toList.map (ev tm) ++ us.toList)).toArray = vs ++ c.args.map (ev tm) ++ us := by apply Array.ext'; simp
              rw [ea]
              simp only [execOp, hop, resolve, hcal, hfv, Deferred.ofValue, invoke, Sem.run_bind, Sem.run_pure, Result.andThen_ok]
              exact this
            refine fin w' G' _ _ v d c1' (fun b => ?_) b6 e3 e4 ?_
            · have := a2 b; have := b3 b; have := c2 b
              simp only [Yaf, List.append_assoc] at *; omega
            · rcases e5 with ⟨e5, e6⟩ | ⟨e5, e6, e7⟩
              · refine .inl ⟨e5, .head (go_enter ho hww (.inr hnd) hrun) (e1.trans (.one ?_))⟩
                rw [← Zk5 ho v]
                exact step_leave_returned e6
              · exact .inr ⟨e5, .head (go_enter ho hww (.inr hnd) hrun) (e1.trans (.one (step_leave_panicked e6))), e7⟩
        · simp at hk
      · rename_i l ds s1' hrd htk
        simp only [Kind.go.injEq] at hk
        obtain ⟨rfl, rfl, rfl⟩ := hk
        have rf := Zh1 h'.rel hrd
        generalize hfv : ev tm f = fv at rf
        cases rf with
        | yield _ bl hbl =>
          obtain ⟨b1, b2, b3, b4, b5, b6⟩ := Zuo _ h'.rel htk
          have b1' : RelSt w G tm df (c.args.toList.map (ev tm)) ds s1' := by simpa using b1
          have hl := b1'.P.len
          obtain ⟨d1, d2⟩ := b1.args hl
          obtain ⟨L, hL1, hL2, w', G', c', v, d, e1, e2, e3, e4⟩ := hc w G _ (mkF F tm df (.inRegion all (i :: is') :: k)) cs bl hbl d1
          have hsz : (c.args.map (ev tm)).size = L.params.size := by rw [hL2]; simp
          have hrun : (execOp (ev tm) o).run P w = .ok (.round bl L.fn ((L.params.zip (c.args.toList.map (ev tm)).toArray).foldl (fun tmps (x : Tmp × Value) => tmps.setIfInBounds x.1 x.2) L.tmps) L.assign L.body) w := by
            have ea : (c.args.toList.map (ev tm)).toArray = c.args.map (ev tm) := by apply Array.ext'; simp
            have hsz' : c.args.size = L.params.size := by simpa using hsz
            rw [ea]
            simp [execOp, hop, resolve, hcal, hfv, Deferred.ofValue, invoke, Instr.yield, Instr.getLoop, getObj, Sem.run, hL1, hsz']
          refine fin w' G' _ _ v d b1' (fun b => ?_) b6 e2 e3 ?_
          · have := b3 b
            simp only [Yaf] at *; omega
          · rcases e4 with ⟨e5, rfl⟩ | ⟨e5, rfl, e7⟩
            · refine .inl ⟨e5, .head (go_round ho hww (.inr hnd) hrun) ?_⟩
              rw [← Zk5 ho v]; exact e1
            · exact .inr ⟨e5, .head (go_round ho hww (.inr hnd) hrun) e1, e7⟩
      · simp at hk
    · simp at hk
    · simp at hk
  · simp at hk
end
end Go.Abs
namespace Go.Abs
section
variable {P : Program} {F : Fr} {w : World} {G : Gh} {tm : List Value} {df : List Deferred} {pv : List Value} {pd : List D} {k : List Item} {cs : List Frame} {s : St}
theorem RelDf.keep' {w w' : World} {G G' : Gh} {df : List Deferred} {l : List (FuncId × List D)} (h : RelDf w G df l) (k : Later w G w' G')
    (hm : ∀ b, 0 < cM df b → w.heap[b]? = some (.deferred (some [])) → b ∉ G.ob → w'.heap[b]? = w.heap[b]? ∧ b ∉ G'.ob) : RelDf w' G' df l := by
  induction h with
  | nil => exact .nil
  | fn g cap args ds df l hl h _ ih => exact .fn g cap args ds df l hl (fun i v d hi hd => ⟨(h i v d hi hd).1.mono k, (h i v d hi hd).2⟩) (ih (fun b hb => hm b (by simpa [cM] using hb)))
  | mark b df l hb ho _ ih =>
    have := hm b (by simp [cM]; omega) hb ho
    exact .mark b df l (this.1.trans hb) this.2 (ih (fun b' hb' => hm b' (by simp only [cM]; omega)))
theorem RelSt.unmark {b : Nat} {args : Array Value} (h : RelSt w G tm ({ target := .collected b, args := args } :: df) pv pd s) (hm : ∀ b', cM ({ target := .collected b, args := args } :: df) b' ≤ 1) :
    RelSt (setB w b (.deferred none)) G tm df pv pd s ∧
      Ext w G (fun b' => cntS w G tm pv pd s b' + cM ({ target := .collected b, args := args } :: df) b') (setB w b (.deferred none)) G (fun b' => cntS (setB w b (.deferred none)) G tm pv pd s b' + cM df b') ∧
      (Instr.takeDeferred b).run P w = .ok [] (setB w b (.deferred none)) := by
  have hdf := h.dfr
  have hb : w.heap[b]? = some (.deferred (some [])) ∧ b ∉ G.ob := by
    cases hdf with
    | mark _ _ _ hb ho _ => exact ⟨hb, ho⟩
  have ht : RelDf w G df s.d := by
    generalize s.d = l at hdf
    cases hdf with
    | mark _ _ _ _ _ ht => exact ht
  obtain ⟨hb, hob⟩ := hb
  have hne : ∀ b', (∃ arr e fz, w.heap[b']? = some (.cells arr e fz)) → b' ≠ b := by
    rintro b' ⟨arr, e, fz, h1⟩ rfl
    rw [hb] at h1; simp at h1
  have hneS : ∀ b' j, G.S b' j → b' ≠ b := by
    rintro b' j hs rfl
    obtain ⟨v, hv⟩ := h.S b' j hs
    simp only [World.cell?, hb] at hv
    simp at hv
  have hkeep : ∀ b', b' ≠ b → (setB w b (.deferred none)).heap[b']? = w.heap[b']? := fun b' hn => Zow hn
  have hcell : ∀ b' j, G.S b' j → (setB w b (.deferred none)).cell? ⟨b', j, none⟩ = w.cell? ⟨b', j, none⟩ := fun b' j hs => by simp only [World.cell?, hkeep b' (hneS b' j hs)]
  have later : Later w G (setB w b (.deferred none)) G := ⟨fun _ _ h => h, fun _ _ h => h, hcell⟩
  have hneO : ∀ b' ∈ G.ob, b' ≠ b := fun b' hb' e => hob (e ▸ hb')
  have hh : ∀ b', hsum (setB w b (.deferred none)) b' G.ob s.h = hsum w b' G.ob s.h := fun b' => Zim _ _ (fun i bi o h1 h2 => Zht (hkeep bi (hneO bi (Yaa h1))))
  refine ⟨{ L := ?_, P := ?_, len := h.len, nd := h.nd, obS := ?_, H := ?_, S := ?_, one := ?_, noob := ?_, dfr := ?_ }, ⟨later, by rw [Zpt]; exact Yab _, fun b' hb' => .inl hb', fun _ _ _ _ _ hs => hs, fun b' _ h0 _ => ?_, fun b' _ => ?_, rfl, rfl⟩, ?_⟩
  · exact h.L.keep later (fun b' ht => ⟨hkeep b' (hne b' (h.L.tok_lt ht).2), fun _ hs => hs⟩)
  · exact h.P.keep later (fun b' ht => ⟨hkeep b' (hne b' (h.P.tok_lt ht).2), fun _ hs => hs⟩)
  · exact fun i b' hb' => ⟨by rw [Zpt]; exact (h.obS i b' hb').1, (h.obS i b' hb').2⟩
  · intro i b' o h1 h2
    exact (h.H i b' o h1 h2).keep later (hkeep b' (hneO b' (Yaa h1))) (fun b2 ht => ⟨hkeep b2 (hne b2 ((h.H i b' o h1 h2).tok_lt ht).2), fun _ hs => hs⟩)
  · intro b' j hs; obtain ⟨v, hv⟩ := h.S b' j hs; exact ⟨v, (hcell b' j hs).trans hv⟩
  · intro b'; rw [hh b']; exact h.one b'
  · intro b' hb'; rw [hh b']; exact h.noob b' hb'
  · refine ht.keep' later (fun b' h0 h1 h2 => ⟨hkeep b' ?_, h2⟩)
    rintro rfl
    have := hm b'
    simp [cM] at this; omega
  · refine hkeep b' ?_
    rintro rfl
    simp [cM] at h0
  · simp only [cntS, hh b', cM]; omega
  · simp [Instr.takeDeferred, getObj, Go.setObj, Sem.run, hb, setB]
def mdF (F : Fr) (tm : List Value) (df : List Deferred) (k : List Item) (md : FrameMode) : Frame := { mkF F tm df k with mode := md }
theorem go_unmark {md : FrameMode} (hmd : md ≠ .run) {b : Nat} {args : Array Value} {w' : World} (hr : (Instr.takeDeferred b).run P w = .ok [] w') :
    step P (lone (mdF F tm ({ target := .collected b, args := args } :: df) k md) cs w) = .next (lone (mdF F tm df k md) cs w') :=
  step_lone_go (by
    cases md with
    | run => exact absurd rfl hmd
    | returning => simp [stepG, unwind, mdF, mkF, hr]
    | panicking ch => simp [stepG, unwind, mdF, mkF, hr])
theorem go_deferred {md : FrameMode} (hmd : md ≠ .run) {g : FuncId} {cap args : Array Value} (hc : Zne P g) :
    step P (lone (mdF F tm ({ target := .fn (.func g) cap, args := args } :: df) k md) cs w) = .next (lone (Frame.enter P g (args ++ cap) .deferred) (mdF F tm df k md :: cs) w) :=
  step_lone_go (by
    have hr := Zlw hc (args ++ cap) w
    cases md with
    | run => exact absurd rfl hmd
    | returning => simp [stepG, unwind, callDeferred, mdF, mkF, invoke, hr]
    | panicking ch => simp [stepG, unwind, callDeferred, mdF, mkF, invoke, hr])
theorem Zvo {md : FrameMode} {u : Option D} (h : MdOK w G md u) : md ≠ .run := by
  cases u with
  | none => rw [show md = .returning from h]; simp
  | some d => obtain ⟨v, rfl, _⟩ := h; simp
theorem MdOK.keep {w' : World} {G' : Gh} {md : FrameMode} {u : Option D} (h : MdOK w G md u) (k : Later w G w' G') : MdOK w' G' md u := by
  cases u with
  | none => exact h
  | some d => obtain ⟨v, h1, h2, h3⟩ := h; exact ⟨v, h1, h2.mono k, h3⟩
def MU (P : Program) (l : List (FuncId × List D)) (u : Option D) (h : List O) (q : Option D × List O) : Prop :=
  (l = [] → q.1 = u) ∧ ∀ (F : Fr) (w : World) (G : Gh) (tm tmX : List Value) (df : List Deferred) (k : List Item) (cs : List Frame) (t : List D) (r : Rc) (md : FrameMode),
    RelSt w G tm df [] [] { t := t, d := l, r := r, h := h } → (∀ b, cM df b ≤ 1) → MdOK w G md u →
    ∃ w' G' md', Steps P (lone (mdF F tmX df k md) cs w) (lone (mdF F tmX [] k md') cs w') ∧ RelSt w' G' tm [] [] [] { t := t, d := [], r := r, h := q.2 } ∧
      Ext w G (fun b => cntS w G tm [] [] { t := t, d := l, r := r, h := h } b + cM df b) w' G' (fun b => cntS w' G' tm [] [] { t := t, d := [], r := r, h := q.2 } b) ∧ MdOK w' G' md' q.1
theorem Zxu (P : Program) (F : Fr) (tm tmX : List Value) (k : List Item) (cs : List Frame) (md : FrameMode) (hmd : md ≠ .run) (G : Gh) (s : St) : ∀ (df : List Deferred) (w : World), RelSt w G tm df [] [] s → (∀ b, cM df b ≤ 1) →
    ∃ w' df', Steps P (lone (mdF F tmX df k md) cs w) (lone (mdF F tmX df' k md) cs w') ∧ RelSt w' G tm df' [] [] s ∧ (∀ b, cM df' b ≤ 1) ∧
      Ext w G (fun b => cntS w G tm [] [] s b + cM df b) w' G (fun b => cntS w' G tm [] [] s b + cM df' b) ∧ (df' = [] ∨ ∃ g cap args df2, df' = { target := .fn (.func g) cap, args := args } :: df2)
  | [], w, h, hm => ⟨w, [], .refl _ _, h, hm, .refl _ _ _, .inl rfl⟩
  | x :: df, w, h, hm => by
    have hdf := h.dfr
    generalize hl : s.d = l at hdf
    cases hdf with
    | fn g cap args ds _ l' hl' hrel ht => exact ⟨w, _, .refl _ _, h, hm, .refl _ _ _, .inr ⟨g, cap, args, df, rfl⟩⟩
    | mark b _ _ hb ho ht =>
      obtain ⟨q1, q2, q3⟩ := h.unmark hm
      obtain ⟨w', df', a1, a2, a3, a4, a5⟩ := Zxu P F tm tmX k cs md hmd G s df _ q1 (fun b' => by have := hm b'; simp only [cM] at this; omega)
      exact ⟨w', df', .head (go_unmark hmd q3) a1, a2, a3, q2.trans a4, a5⟩
theorem mu_nil {u : Option D} {h : List O} : MU P [] u h (u, h) := by
  refine ⟨fun _ => rfl, ?_⟩
  intro F w G tm tmX df k cs t r md hrel hm hmd
  obtain ⟨w', df', a1, a2, a3, a4, a5⟩ := Zxu P F tm tmX k cs md (Zvo hmd) G _ df w hrel hm
  have hd := a2.dfr
  have : df' = [] := by
    rcases a5 with rfl | ⟨g, cap, args, df2, rfl⟩
    · rfl
    · cases hd
  subst this
  exact ⟨w', G, md, a1, a2, by simpa [cM] using a4, hmd.keep a4.later⟩
theorem mu_cons {g : FuncId} {args : List D} {ds : List (FuncId × List D)} {u u' : Option D} {h : List O} {rc : Out × List O} {q : Option D × List O} (hc : MC P (.dfn g u) args h rc)
    (hu : ((∃ d, rc.1 = .val d) ∧ u' = u) ∨ ((∃ d, rc.1 = .rcv d) ∧ u' = none)) (h2 : MU P ds u' rc.2 q) : MU P ((g, args) :: ds) u h q := by
  refine ⟨fun h => (by cases h), ?_⟩
  intro F w G tm tmX df k cs t r md hrel hm hmd
  obtain ⟨w1, df1, a1, a2, a3, a4, a5⟩ := Zxu P F tm tmX k cs md (Zvo hmd) G _ df w hrel hm
  have hd := a2.dfr
  obtain ⟨hcal, hc⟩ := hc
  rcases a5 with rfl | ⟨g', cap, vargs, df2, rfl⟩
  · cases hd
  · cases hd with
    | fn _ _ _ _ _ _ hl hr ht =>
      have b1 : RelSt w1 G tm df2 [] [] { t := t, d := ds, r := r, h := h } := { L := a2.L, P := a2.P, len := a2.len, nd := a2.nd, obS := a2.obS, H := a2.H, S := a2.S, one := a2.one, noob := a2.noob, dfr := ht }
      have hown : ∀ (i : Nat) v d, (vargs ++ cap).toList[i]? = some v → args[i]? = some d → RelD w1 G v d ∧ ∀ b, tokT b v d = 0 := fun i v d hv hd => hr i v d (by rw [Array.getElem?_toList] at hv; exact hv) hd
      have hz : ∀ b, sumZ (tokT b) (vargs ++ cap).toList args = 0 := fun b => Zhd _ _ _ (fun i v d hi hd => (hown i v d hi hd).2 b)
      have c1 : RelSt w1 G tm df2 (vargs ++ cap).toList args { t := t, d := ds, r := r, h := h } := {
        L := b1.L
        P := ⟨hl, fun i v d hi hd => (hown i v d hi hd).1, fun i v d hi hd => Zga (hown i v d hi hd).2⟩
        len := b1.len
        nd := b1.nd
        obS := b1.obS
        H := b1.H
        S := b1.S
        dfr := b1.dfr
        one := fun b => by have := b1.one b; simp only [hz b, sumZ] at *; omega
        noob := fun b hb => by have := b1.noob b hb; simp only [hz b, sumZ] at *; omega }
      have c1' : RelSt w1 G tm df2 ((vargs ++ cap).toList ++ []) (args ++ []) { t := t, d := ds, r := r, h := h } := by simpa using c1
      obtain ⟨d1, d2⟩ := c1'.args hl
      obtain ⟨w2, G2, c', e1, e2, e3, e4⟩ := hc w1 G _ (mdF F tmX df2 k md) cs d1 (hmd.keep a4.later)
      obtain ⟨f1, f2⟩ := c1'.back (tm2 := []) (df2 := []) hl e2 e3 (fun b => Nat.le_of_eq (d2 b)) (fun b => by simp only [cntS, sumZ]; omega)
      have f1' : RelSt w2 G2 tm df2 [] [] { t := t, d := ds, r := r, h := rc.2 } := by simpa using f1
      have hm2 : ∀ b, cM df2 b ≤ 1 := fun b => by have := a3 b; simp only [cM] at this; omega
      have hmd2 : ∃ md2, c' = mdF F tmX df2 k md2 ∧ MdOK w2 G2 md2 u' := by
        rcases e4 with ⟨⟨d, hv⟩, rfl⟩ | ⟨⟨d, hv⟩, hu', rfl⟩
        · rcases hu with ⟨_, rfl⟩ | ⟨⟨d', hv'⟩, rfl⟩
          · exact ⟨md, rfl, (hmd.keep a4.later).keep e3.later⟩
          · rw [hv] at hv'; cases hv'
        · rcases hu with ⟨⟨d', hv'⟩, rfl⟩ | ⟨_, rfl⟩
          · rw [hv] at hv'; cases hv'
          · exact ⟨.returning, rfl, rfl⟩
      obtain ⟨md2, rfl, hmd2⟩ := hmd2
      obtain ⟨w3, G3, md3, g1, g2, g3, g4⟩ := h2.2 F w2 G2 tm tmX df2 k cs t r md2 f1' hm2 hmd2
      refine ⟨w3, G3, md3, a1.trans (.head (go_deferred (Zvo hmd) hcal) (Steps.trans ?_ g1)), g2, ?_, g4⟩
      · have : (vargs ++ cap).toList.toArray = vargs ++ cap := by simp
        rw [this] at e1; exact e1
      · refine a4.trans (Ext.trans ?_ g3)
        refine f2.weaken (fun b => ?_) (fun b hb => ?_)
        · simp only [cntS, Yaf, hz b, sumZ, cM]; omega
        · have := f2.cnt b hb
          simp only [cntS, Yaf, hz b, sumZ, cM] at *; omega
end
end Go.Abs
namespace Go.Abs
section
variable {P : Program} {F : Fr} {w : World} {G : Gh} {tm : List Value} {df : List Deferred} {pv : List Value} {pd : List D} {k : List Item} {cs : List Frame} {s : St}
theorem RelSt.bare (h : RelSt w G tm df pv pd s) : RelSt w G [] [] pv pd (hSt s.h) ∧ ∀ b, cntS w G [] pv pd (hSt s.h) b ≤ cntS w G tm pv pd s b :=
  ⟨{ L := .nil w G, P := h.P, len := h.len, nd := h.nd, obS := h.obS, H := h.H, S := h.S, dfr := .nil
     one := fun b => by have := h.one b; simp only [sumZ] at *; omega
     noob := fun b hb => by have := h.noob b hb; simp only [sumZ] at *; omega }, fun b => by simp only [cntS, sumZ]; omega⟩
theorem bodyOf_some {fn : Func} {c : Code} (h : Zo4 fn = some c) : fn.body = some c := by
  unfold Zo4 at h; split at h
  · simp at h
  · exact h
theorem Zxk {f : FuncId} {fn : Func} {c : Code} (hf : P.funcs[f]? = some fn) (hb : Zo4 fn = some c) (vs : List Value) (kind : CallKind) :
    Frame.enter P f vs.toArray kind = mkF ⟨f, kind, none⟩ (vs ++ List.replicate (fn.ntmps - vs.length) undef) [] [.code c] := by
  simp [Frame.enter, mkF, hf, bodyOf_some hb]
theorem Zoh {f : FuncId} {fn : Func} (hf : P.funcs[f]? = some fn) (hr : fn.results.isEmpty = true) {c c' : Frame}
    (hc : (c.mode = .returning ∧ c' = c) ∨ (∃ v, c.mode = .panicking [{ v := v, recovered := false }] ∧ c' = c) ∨ ∃ v, c.mode = .panicking [{ v := v, recovered := true }] ∧ c' = { c with mode := .returning }) :
    step P (lone (mdF ⟨f, .deferred, none⟩ tm [] k .returning) (c :: cs) w) = .next (lone c' cs w) :=
  step_lone_go (by
    have he : fn.results = #[] := by simpa using hr
    have hres : (results fn tm.toArray).run P w = .ok (.tuple #[]) w := by simp [results, he]
    rcases hc with ⟨h1, rfl⟩ | ⟨v, h1, rfl⟩ | ⟨v, h1, rfl⟩ <;> simp [stepG, unwind, doReturn, mdF, mkF, hf, hres, h1])
def dfR (u : Option D) : Rc := match u with | some d => .avail d | none => .nil
theorem mc_dfn {f : FuncId} {fn : Func} {c : Code} {args : List D} {h : List O} {u : Option D} {r : Abs.X × St} {rc : Out × List O} (hf : P.funcs[f]? = some fn) (hb : Zo4 fn = some c) (hres : fn.results.isEmpty = true)
    (hE : ME P f c { t := Zbj fn args, d := [], r := dfR u, h := h } r) (ho : Zue r = some rc) : MC P (.dfn f u) args h rc := by
  refine ⟨⟨fn, hf, by rw [hb]; simp⟩, fun w G vs cl cs hrel hmd => ?_⟩
  have hl := hrel.P.len
  have hrel' : RelSt w G [] [] (vs ++ []) (args ++ []) (hSt h) := by simpa using hrel
  obtain ⟨a1, a2⟩ := hrel'.enter hl (fn.ntmps - vs.length) (dfR u)
  have hen : Zbj fn args = args ++ List.replicate (fn.ntmps - vs.length) Zaw := by simp [Zbj, hl]
  rw [hen] at hE
  have hrc : RcOK w G ⟨f, .deferred, none⟩ (cl :: cs) (dfR u) := by
    cases u with
    | none => exact ⟨rfl, rfl, cl, cs, rfl, hmd⟩
    | some d => obtain ⟨v, h1, h2, h3⟩ := hmd; exact ⟨rfl, rfl, cl, cs, v, rfl, h1, h2, h3⟩
  obtain ⟨w', G', tm', df', cs', q1, q2, q3⟩ := hE.code (F := ⟨f, .deferred, none⟩) (k := []) (cs := cl :: cs) rfl ⟨a1, hrc, fun b => Nat.zero_le 1⟩
  rw [Zxk hf hb]
  obtain ⟨rX, rs⟩ := r
  have hend : rs.d = [] ∧ (rX = .nrm ∨ rX = .ret) ∧ ((rs.r = .took ∧ rc = (.rcv Zaw, rs.h)) ∨ (rs.r ≠ .took ∧ rc = (.val Zaw, rs.h))) := by
    unfold Zue at ho
    simp only at ho
    split at ho
    · rename_i hd
      refine ⟨hd, .inl rfl, ?_⟩
      split at ho <;> simp_all
    · rename_i hd
      refine ⟨hd, .inr rfl, ?_⟩
      split at ho <;> simp_all
    · simp at ho
  obtain ⟨hd, hX, hrc2⟩ := hend
  have hst : ∃ k2, Steps P (lone (mkF ⟨f, .deferred, none⟩ (vs ++ List.replicate (fn.ntmps - vs.length) undef) [] [.code c]) (cl :: cs) w) (lone (mdF ⟨f, .deferred, none⟩ tm' df' k2 .returning) cs' w') := by
    rcases hX with rfl | rfl
    · exact ⟨[], Steps.trans q1 (.one (go_end rfl))⟩
    · obtain ⟨k2, q1⟩ := q1
      exact ⟨_, Steps.trans q1 (.one (go_ret rfl))⟩
  obtain ⟨k2, hst⟩ := hst
  have hrs : rs = { t := rs.t, d := [], r := rs.r, h := rs.h } := by cases rs; simp_all
  have hrel2 := q2.rel
  rw [hrs] at hrel2
  obtain ⟨w2, G2, md2, b1, b2, b3, b4⟩ := (mu_nil (P := P) (u := none) (h := rs.h)).2 ⟨f, .deferred, none⟩ w' G' tm' tm' df' k2 cs' rs.t rs.r .returning hrel2 q2.mks rfl
  have hmd2 : md2 = .returning := b4
  subst hmd2
  obtain ⟨e1, e2⟩ := b2.bare
  have hcs : ∃ cl2, cs' = cl2 :: cs ∧ ∃ c', ((cl2.mode = .returning ∧ c' = cl2) ∨ (∃ v, cl2.mode = .panicking [{ v := v, recovered := false }] ∧ c' = cl2) ∨ ∃ v, cl2.mode = .panicking [{ v := v, recovered := true }] ∧ c' = { cl2 with mode := .returning }) ∧
      (((∃ d, rc.1 = .val d) ∧ c' = cl) ∨ ((∃ d, rc.1 = .rcv d) ∧ u ≠ none ∧ c' = { cl with mode := .returning })) := by
    rcases q3.cs with ⟨h1, h2⟩ | ⟨d, c0, t0, v, h1, h2, h3, h4, h5⟩
    · refine ⟨cl, h2, cl, ?_, .inl ⟨?_, rfl⟩⟩
      · cases u with
        | none => exact .inl ⟨hmd, rfl⟩
        | some d => obtain ⟨v, m1, _⟩ := hmd; exact .inr (.inl ⟨v, m1, rfl⟩)
      · rcases hrc2 with ⟨h3, _⟩ | ⟨h3, rfl⟩
        · rw [h3] at h1; cases u <;> cases h1
        · exact ⟨_, rfl⟩
    · cases h3
      refine ⟨_, h5, { cl with mode := .returning }, .inr (.inr ⟨v, rfl, rfl⟩), .inr ⟨?_, ?_, rfl⟩⟩
      · rcases hrc2 with ⟨_, rfl⟩ | ⟨h3, _⟩
        · exact ⟨_, rfl⟩
        · exact absurd h2 h3
      · cases u with
        | none => cases h1
        | some d => simp
  obtain ⟨cl2, rfl, c', hc1, hc2⟩ := hcs
  refine ⟨w2, G2, c', hst.trans (b1.trans (.one (Zoh hf hres hc1))), ?_, ?_, hc2⟩
  · rcases hrc2 with ⟨_, rfl⟩ | ⟨_, rfl⟩ <;> exact e1
  · have x1 : Ext w G (fun b => cntS w G (vs ++ List.replicate (fn.ntmps - vs.length) undef) [] [] { t := args ++ List.replicate (fn.ntmps - vs.length) Zaw, d := [], r := dfR u, h := h } b + cM [] b) w' G' (fun b => cntS w' G' tm' [] [] { t := rs.t, d := [], r := rs.r, h := rs.h } b + cM df' b) := by
      have := q3.ext
      simp only at this
      rw [hrs] at this
      exact this
    have x2 := x1.trans b3
    have : rc.2 = rs.h := by rcases hrc2 with ⟨_, rfl⟩ | ⟨_, rfl⟩ <;> rfl
    rw [this]
    refine x2.weaken (fun b => ?_) (fun b hb => ?_)
    · have := a2 b; simp only [Yaf, cM, sumZ] at *; omega
    · have y1 := x2.cnt b hb; have y2 := e2 b; have := a2 b
      simp only [Yaf, cM, sumZ] at *; omega
end
end Go.Abs
namespace Go.Abs
section
variable {P : Program} {w w0 : World} {G G0 : Gh} {pv : List Value} {pd : List D}
def cutG (G : Gh) (n : Nat) : Gh := { ob := G.ob.take n, S := G.S }
theorem Zw5 {n i b : Nat} (h : G.ob[i]? = some b) (hi : i < n) : (cutG G n).ob[i]? = some b := by
  simp only [cutG]; rw [List.getElem?_take, if_pos hi]; exact h
theorem Zt1 {n : Nat} {v : Value} {d : D} (h : RelD w G v d) (hf : Fit n d) : RelD w (cutG G n) v d := by
  induction h with
  | e v x h => exact .e v x h
  | oslN ex fu sz => exact .oslN ex fu sz
  | osl b o m cap sz es ex fu hn hc hfu h0 hsz hs => exact .osl b o m cap sz es ex fu hn hc hfu h0 hsz hs
  | hdr a m cap => exact .hdr a m cap
  | ptr i off b h => cases hf with | ptr _ _ hi => exact .ptr i off b (Zw5 h hi)
  | rptr b o off cs h => exact .rptr b o off cs h
  | asl i off len cap b h hc => cases hf with | asl _ _ _ hi => exact .asl i off len cap b (Zw5 h hi) hc
  | map i b h => cases hf with | map _ hi => exact .map i b (Zw5 h hi)
  | func f vs us ds cs h1 h2 _ _ ihd ihc =>
    cases hf with
    | func _ _ _ fd fc => exact .func f vs us ds cs h1 h2 (fun i v d hi hd => ihd i v d hi hd (fd d (Yaa hd))) (fun i v d hi hd => ihc i v d hi hd (fc d (Yaa hd)))
  | yield l b h => cases hf with | yield _ hi => exact .yield l b (Zw5 h hi)
  | iface t v d _ ih => cases hf with | iface _ _ hi => exact .iface t v d (ih hi)
  | agg vs ds h1 ho _ ih => cases hf with | agg _ fd => exact .agg vs ds h1 ho (fun i v d hi hd => ih i v d hi hd (fd d (Yaa hd)))
  | tup vs ds h1 _ ih => cases hf with | tup _ fd => exact .tup vs ds h1 (fun i v d hi hd => ih i v d hi hd (fd d (Yaa hd)))
theorem Zx1 {vs : Array Value} {ds : List D} (h1 : vs.size = ds.length) {d : D} (hd : d ∈ ds) : ∃ (i : Nat) (v : Value), vs[i]? = some v ∧ ds[i]? = some d := by
  obtain ⟨i, hi, rfl⟩ := List.mem_iff_getElem.1 hd
  exact ⟨i, vs[i]'(by omega), Array.getElem?_eq_getElem _, Ya4 hi⟩
theorem Zy1 {v : Value} {d : D} (h : RelD w G v d) : Fit G.ob.length d := by
  have lt : ∀ {i b : Nat}, G.ob[i]? = some b → i < G.ob.length := fun h => (List.getElem?_eq_some_iff.1 h).1
  induction h with
  | e v x h => exact .e x
  | oslN ex fu sz => exact .osl ex fu sz []
  | osl b o m cap sz es ex fu => exact .osl ex fu sz es
  | hdr a m cap => exact .hdr m
  | ptr i off b h => exact .ptr i off (lt h)
  | rptr b o off cs h => exact .rptr cs off
  | asl i off len cap b h _ => exact .asl i off len (lt h)
  | map i b h => exact .map i (lt h)
  | func f vs us ds cs h1 h2 _ _ ihd ihc =>
    exact .func f ds cs (fun d hd => by obtain ⟨i, v, q1, q2⟩ := Zx1 h1 hd; exact ihd i v d q1 q2) (fun d hd => by obtain ⟨i, v, q1, q2⟩ := Zx1 h2 hd; exact ihc i v d q1 q2)
  | yield l b h => exact .yield l (lt h)
  | iface t v d _ ih => exact .iface t d ih
  | agg vs ds h1 ho _ ih => exact .agg ds (fun d hd => by obtain ⟨i, v, q1, q2⟩ := Zx1 h1 hd; exact ih i v d q1 q2)
  | tup vs ds h1 _ ih => exact .tup ds (fun d hd => by obtain ⟨i, v, q1, q2⟩ := Zx1 h1 hd; exact ih i v d q1 q2)
def FitO' (n : Nat) : O → Prop
  | .cells cs => ∀ d ∈ cs, Fit n d
  | .map es => ∀ x ∈ es, Fit n x.2
  | .loop _ _ _ env _ _ _ => ∀ d ∈ env, Fit n d
  | .dead => True
theorem relO_fit {b : Nat} {o : O} (h : RelO w G b o) : FitO' G.ob.length o := by
  cases o with
  | cells cs =>
    obtain ⟨arr, elem, fz, _, _, h3, _, h5⟩ := h
    intro d hd
    obtain ⟨i, hi, rfl⟩ := List.mem_iff_getElem.1 hd
    exact Zy1 (h5 i (arr[i]'(by omega)) _ (Array.getElem?_eq_getElem _) (Ya4 hi)).1
  | map es =>
    obtain ⟨ents, clock, _, h2, h3⟩ := h
    intro x hx
    obtain ⟨i, hi, rfl⟩ := List.mem_iff_getElem.1 hx
    exact Zy1 (h3 i (ents[i]'(by omega)) es[i].1 es[i].2 (Array.getElem?_eq_getElem _) (Ya4 hi)).2.1
  | loop st pd fn env ps asg body =>
    obtain ⟨tm, bd, _, h2, _⟩ := h
    intro d hd
    obtain ⟨i, v, q1, q2⟩ := Zx1 (vs := tm) (by simpa using h2.len) hd
    exact Zy1 (h2.rel i v d (by simpa using q1) q2)
  | dead => trivial
theorem fitO_rel {n b : Nat} {o : O} (h : RelO w G b o) (hf : FitO' n o) : RelO w (cutG G n) b o := by
  cases o with
  | cells cs =>
    obtain ⟨arr, elem, fz, h1, h2, h3, h4, h5⟩ := h
    exact ⟨arr, elem, fz, h1, h2, h3, h4, fun i v d hi hd => ⟨Zt1 (h5 i v d hi hd).1 (hf d (Yaa hd)), (h5 i v d hi hd).2⟩⟩
  | map es =>
    obtain ⟨ents, clock, h1, h2, h3⟩ := h
    exact ⟨ents, clock, h1, h2, fun i m k d hi hd => ⟨(h3 i m k d hi hd).1, Zt1 (h3 i m k d hi hd).2.1 (hf (k, d) (Yaa hd)), (h3 i m k d hi hd).2.2⟩⟩
  | loop st pd fn env ps asg body =>
    obtain ⟨tm, bd, h1, h2, h3⟩ := h
    exact ⟨tm, bd, h1, ⟨h2.len, fun i v d hi hd => Zt1 (h2.rel i v d hi hd) (hf d (Yaa hd)), h2.leaf⟩, h3⟩
  | dead => trivial
theorem Zsu (b : Nat) : ∀ (n : Nat) (ob : List Nat) (hh : List O), hsum w b (ob.take n) (hh.take n) ≤ hsum w b ob hh
  | 0, ob, hh => by simp [hsum]
  | n + 1, [], hh => by simp [hsum]
  | n + 1, x :: ob, [] => by simp [hsum]
  | n + 1, x :: ob, o :: hh => by simp only [List.take_succ_cons, hsum]; have := Zsu b n ob hh; omega
theorem RelSt.gc {h0 h' : List O} {v : Value} {d : D} {c c' : Nat → Nat} (r0 : RelSt w0 G0 [] [] pv pd (hSt h0)) (r : RelSt w G [] [] [v] [d] (hSt h')) (e : Ext w0 G0 c w G c') (hc' : ∀ b, cntS w G [] [v] [d] (hSt h') b ≤ c' b) :
    ∃ G', RelSt w G' [] [] [v] [d] (hSt (Abs.gc h0.length h0 h' d)) ∧ Ext w0 G0 c w G' (fun b => cntS w G' [] [v] [d] (hSt (Abs.gc h0.length h0 h' d)) b) ∧ ∀ d', RelD w G v d' → Fit h0.length d' → RelD w G' v d' := by
  unfold Abs.gc
  split
  · rename_i hk
    obtain ⟨hf, hn, hk⟩ := hk
    have hlen0 : G0.ob.length = h0.length := r0.len
    have hlen : G.ob.length = h'.length := r.len
    have hob : G.ob.take h0.length = G0.ob := by
      apply List.ext_getElem?
      intro i
      rw [List.getElem?_take]
      by_cases hi : i < h0.length
      · rw [if_pos hi, Ya4 (show i < G0.ob.length by omega)]
        exact e.later.ob i _ (Ya4 _)
      · rw [if_neg hi, List.getElem?_eq_none (by omega)]
    have hs : ∀ b, hsum w b (G.ob.take h0.length) (h'.take h0.length) ≤ hsum w b G.ob h' := fun b => Zsu b _ _ _
    have hrv : RelD w G v d := r.P.head.1
    refine ⟨cutG G h0.length, { L := .nil _ _, P := ?_, len := ?_, nd := ?_, obS := ?_, H := ?_, S := r.S, one := ?_, noob := ?_, dfr := .nil }, ?_, fun d' h1 h2 => Zt1 h1 h2⟩
    · exact (RelL.nil _ _).cons (Zt1 hrv hf) (r.P.head.2)
    · simp only [cutG, List.length_take]; omega
    · exact List.Nodup.sublist (List.take_sublist _ _) r.nd
    · intro i b hb
      simp only [cutG, List.getElem?_take] at hb
      split at hb
      · rename_i hi
        refine ⟨(r.obS i b hb).1, fun hd => (r.obS i b hb).2 (fun e => hd ?_)⟩
        simp only; rw [List.getElem?_take, if_pos hi]; exact e
      · simp at hb
    · intro i b o h1 h2
      simp only [cutG, List.getElem?_take] at h1 h2
      split at h1
      · rename_i hi
        rw [if_pos hi] at h2
        have hro := r.H i b o h1 h2
        refine fitO_rel hro ?_
        have ho0 : h0[i]? = some h0[i] := Ya4 hi
        have hb0 : G0.ob[i]? = some (G0.ob[i]'(by omega)) := Ya4 _
        have f0 := relO_fit (r0.H i _ _ hb0 ho0)
        rw [hlen0] at f0
        rcases hk i hi _ _ ho0 h2 with ha | ha
        · generalize h0[i] = o0 at ha f0
          cases ha with
          | refl => exact f0
          | loop => exact f0
        · cases ha with
          | cells cs h => exact h
          | map es h => exact h
          | dead => trivial
      · simp at h1
    · intro b; have := r.one b; have := hs b; simp only [cutG] at *; omega
    · intro b hb; have := r.noob b (List.mem_of_mem_take hb); have := hs b; simp only [cutG] at *; omega
    · refine ⟨⟨fun i b hi => ?_, e.later.S, e.later.cell⟩, e.size, fun b hb => .inl ?_, e.Ssame, e.same, fun b hb => ?_, e.wo⟩
      · simp only [cutG, hob]; exact hi
      · simp only [cutG, hob] at hb; exact hb
      · have a1 := e.cnt b hb; have a2 := hc' b; have a3 := hs b
        simp only [cntS, cutG] at *; omega
  · exact ⟨G, r, e.weaken (fun _ => Yab _) (fun b hb => Nat.le_trans (hc' b) (e.cnt b hb)), fun d' h1 _ => h1⟩
end
end Go.Abs
