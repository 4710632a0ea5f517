/-
  THE OPERATIONS, ONE BY ONE: least and greatest, panics, deferred calls, and all of them together. A REGION's OPERATIONS, one behind the other, on the machine. CALLS: what a call owes, and an operation that is one. DEFERRED CALLS, when a frame unwinds. HOW A CALL ENDS: of a deferred function. No condition.
-/
import Derived.Test.YtkimilghfbgjmaaP09

namespace Go.Abs

section
variable {P : Program} {w : World} {G : Gh} {tm : List Value} {df : List Deferred} {pv : List Value} {pd : List D} {s : St}

theorem op_minmax (h : RelSt w G tm df pv pd s) {rest : List Oper} {o : Oper} {c : Call} (ho : o.op = .call c) (hc : c.callee = .builtin .min ∨ c.callee = .builtin .max) {d : D} {s1 : St} (hx : exOp P rest o s = some (.val d, s1)) : Zi6 P w G tm df pv pd s o d s1 := by
  rcases hc with hc | hc
  all_goals
    simp only [exOp, ho, hc] at hx
    unfold Zfs at hx
    split at hx
    all_goals first | (simp at hx; done) | skip
    all_goals rename_i heq1 heq2
    all_goals try (cases heq1; done)
  · rename_i x y
    have hargs : c.args = #[x, y] := by apply Array.ext'; simpa using heq2
    split at hx
    · rename_i a b h1 h2
      obtain ⟨d', h3, h4⟩ := Option.map_eq_some_iff.1 hx
      simp only [Prod.mk.injEq, Out.val.injEq] at h4
      obtain ⟨rfl, rfl⟩ := h4
      have r1 := Zgg h h1; have r2 := Zgg h h2
      unfold min2 at h3
      split at h3
      · rename_i k i k' j
        split at h3
        · rename_i hk; subst hk
          simp at h3; subst h3
          have e1 := Zfo r1; have e2 := Zfo r2
          refine Zdw h (v := .int k (if j < i then j else i)) ?_ (.e _ _ (.int _ _)) (fun b => by rw [Zct rfl, tok_e])
          rw [run_builtin ho hc]
          simp [builtin, hargs, e1, e2, Builtin.min_, Builtin.min2]
        · simp at h3
      · simp at h3
    · simp at hx
  · rename_i x y
    have hargs : c.args = #[x, y] := by apply Array.ext'; simpa using heq2
    split at hx
    · rename_i a b h1 h2
      obtain ⟨d', h3, h4⟩ := Option.map_eq_some_iff.1 hx
      simp only [Prod.mk.injEq, Out.val.injEq] at h4
      obtain ⟨rfl, rfl⟩ := h4
      have r1 := Zgg h h1; have r2 := Zgg h h2
      unfold max2 at h3
      split at h3
      · rename_i k i k' j
        split at h3
        · rename_i hk; subst hk
          simp at h3; subst h3
          have e1 := Zfo r1; have e2 := Zfo r2
          refine Zdw h (v := .int k (if j > i then j else i)) ?_ (.e _ _ (.int _ _)) (fun b => by rw [Zct rfl, tok_e])
          rw [run_builtin ho hc]
          simp [builtin, hargs, e1, e2, Builtin.max_, Builtin.max2]
        · simp at h3
      · simp at h3
    · simp at hx

theorem iface_tok (b : Nat) (v : Value) (t : TypeId) (d : D) : tokT b v (.iface t d) = 0 := by
  unfold tokT; split
  · simp_all
  · unfold tokA; split
    · simp_all
    · unfold tok; split <;> simp_all
theorem e_tok (b : Nat) (v : Value) (x : E) : tokT b v (.e x) = 0 := by rw [Zct rfl, tok_e]

theorem panic_val {x : Operand} {d d0 : D} (h : RelSt w G tm df pv pd s) (hx : rd s x = some d0) (hd : (∃ t e, d0 = .iface t e) ∨ ∃ t e, d0 = .e (.iface t e)) (hdd : d = d0) :
    ∃ v, (Instr.panic (ev tm x)).run P w = .halt (.panic v) w ∧ RelD w G v d ∧ ∀ b, tokT b v d = 0 := by
  subst hdd
  have r := Zgg h hx
  generalize ev tm x = v at r
  rcases hd with ⟨t, e, rfl⟩ | ⟨t, e, rfl⟩
  · cases r with
    | iface _ u _ hr => exact ⟨_, rfl, .iface _ _ _ hr, fun b => iface_tok b _ _ _⟩
  · have r' := Zfk r
    cases r' with
    | iface _ u _ hr => exact ⟨_, rfl, .e _ _ (.iface _ _ _ hr), fun b => e_tok b _ _⟩

theorem op_pan (h : RelSt w G tm df pv pd s) {rest : List Oper} {o : Oper} {d : D} {s1 : St} (hx : exOp P rest o s = some (.pan d, s1)) :
    s1 = s ∧ (∀ c, o.op ≠ .defer c) ∧ ∃ v, (execOp (ev tm) o).run P w = .halt (.panic v) w ∧ RelD w G v d ∧ ∀ b, tokT b v d = 0 := by
  have key : ∀ x, (o.op = .panic x ∨ ∃ c, o.op = .call c ∧ c.callee = .builtin .panic ∧ c.args.toList = [x]) →
      (match rd s x with
        | some (.iface t d) => some (Out.pan (.iface t d), s)
        | some (.e (.iface t d)) => some (Out.pan (.e (.iface t d)), s)
        | _ => none) = some (Out.pan d, s1) → s1 = s ∧ (∀ c, o.op ≠ .defer c) ∧ ∃ v, (execOp (ev tm) o).run P w = .halt (.panic v) w ∧ RelD w G v d ∧ ∀ b, tokT b v d = 0 := by
    intro x ho hm
    have hrun : ∀ v, (Instr.panic (ev tm x)).run P w = .halt (.panic v) w → (execOp (ev tm) o).run P w = .halt (.panic v) w := by
      intro v hv
      rcases ho with ho | ⟨c, ho, hc, ha⟩
      · simp [execOp, ho, hv, Result.andThen]
      · have hargs : c.args = #[x] := by apply Array.ext'; simpa using ha
        rw [run_builtin ho hc]
        simp [builtin, hargs, hv, Result.andThen]
    have hnd : ∀ c, o.op ≠ .defer c := by
      rcases ho with ho | ⟨c, ho, _⟩ <;> rw [ho] <;> simp
    split at hm
    · rename_i t e hrd
      simp at hm; obtain ⟨rfl, rfl⟩ := hm
      obtain ⟨v, q1, q2⟩ := panic_val (P := P) (d := .iface t e) h hrd (.inl ⟨t, e, rfl⟩) rfl
      exact ⟨rfl, hnd, v, hrun v q1, q2⟩
    · rename_i t e hrd
      simp at hm; obtain ⟨rfl, rfl⟩ := hm
      obtain ⟨v, q1, q2⟩ := panic_val (P := P) (d := .e (.iface t e)) h hrd (.inr ⟨t, e, rfl⟩) rfl
      exact ⟨rfl, hnd, v, hrun v q1, q2⟩
    · simp at hm
  cases ho : o.op
  case panic x => rw [ho] at key; simp only [exOp, ho] at hx; exact key x (.inl rfl) hx
  case call c =>
    rw [ho] at key
    simp only [exOp, ho] at hx
    split at hx
    · rename_i b hb
      unfold Zfs at hx
      split at hx
      case h_5 x heq =>
        exact key x (.inr ⟨c, rfl, hb, heq⟩) hx
      all_goals (exfalso; (repeat' (split at hx)) <;> simp [Option.bind_eq_some_iff] at hx)
    · simp at hx
  case makeMap t r => exfalso; cases r <;> simp [exOp, ho] at hx
  all_goals (exfalso; simp only [exOp, ho] at hx)
  all_goals (repeat' (split at hx))
  all_goals (first | (simp at hx; done) | (simp [Option.bind_eq_some_iff] at hx; done) | skip)

theorem op_defer (h : RelSt w G tm df pv pd s) {rest : List Oper} {o : Oper} {c : Call} (ho : o.op = .defer c) {d : D} {s1 : St} (hx : exOp P rest o s = some (.val d, s1)) :
    ∃ G' g cap args ds, d = Zav ∧ (execOp (ev tm) o).run P w = .ok (.defer { target := .fn (.func g) cap, args := args }) w ∧ s1.d = (g, ds) :: s.d ∧ s1.h = s.h ∧ s1.r = s.r ∧ (∀ l, s.r ≠ .rnd l) ∧
      RelSt w G' tm ({ target := .fn (.func g) cap, args := args } :: df) pv pd s1 ∧ Ext w G (cntS w G tm pv pd s) w G' (cntS w G' tm pv pd s1) := by
  simp only [exOp, ho] at hx
  split at hx
  · rename_i f hf
    split at hx
    · simp at hx
    · rename_i hr
      split at hx
      · rename_i g first cap ds s2 h1 h2
        split at hx
        · simp at hx
        · rename_i hno
          simp at hx
          obtain ⟨rfl, rfl⟩ := hx
          have hno' : ∀ d ∈ first ++ cap, ownD d = false := by
            intro d hd'
            cases hod : ownD d with
            | false => rfl
            | true => exact absurd (List.any_eq_true.2 ⟨d, hd', hod⟩) hno
          have rf := Zgg h h1
          obtain ⟨G', m1, m2, m3, m4, m5, m6, m7⟩ := shs_rel _ h h2
          have rf' : RelD w G' (ev tm f) (.func (.func g) first cap) := rf.mono m2.later
          generalize hfv : ev tm f = fv at rf'
          cases rf' with
          | func _ vs us _ _ l1 l2 hd hc =>
            have hrel : RelDf w G' ({ target := .fn (.func g) us, args := vs ++ c.args.map (ev tm) } :: df) ((g, first ++ ds ++ cap) :: s2.d) := by
              have hall : ∀ (i : Nat) v d, (vs.toList ++ c.args.toList.map (ev tm) ++ us.toList)[i]? = some v → (first ++ ds ++ cap)[i]? = some d → RelD w G' v d ∧ ownD d = false := by
                intro i v d hv hd'
                by_cases h1 : i < first.length
                · rw [List.getElem?_append_left (by simp; omega), List.getElem?_append_left (by simp; omega)] at hv
                  rw [List.getElem?_append_left (by simp; omega), List.getElem?_append_left h1] at hd'
                  exact ⟨hd i v d (by simpa using hv) hd', hno' d (by simp [List.mem_of_getElem? hd'])⟩
                · by_cases h2 : i < first.length + ds.length
                  · rw [List.getElem?_append_left (by simp at m5 ⊢; omega), List.getElem?_append_right (by simp; omega)] at hv
                    rw [List.getElem?_append_left (by simp; omega), List.getElem?_append_right (by omega)] at hd'
                    simp only [Array.length_toList, l1] at hv
                    rw [List.getElem?_map] at hv
                    cases hx' : c.args.toList[i - first.length]? with
                    | none => rw [hx'] at hv; simp at hv
                    | some x =>
                      rw [hx'] at hv; simp at hv; subst hv
                      exact m7 _ x d hx' hd'
                  · rw [List.getElem?_append_right (by simp at m5 ⊢; omega)] at hv
                    rw [List.getElem?_append_right (by simp; omega)] at hd'
                    simp only [List.length_append, Array.length_toList, List.length_map, l1] at hv hd'
                    have m5' : c.args.size = ds.length := by simpa using m5
                    rw [m5'] at hv
                    exact ⟨hc _ v d (by simpa using hv) hd', hno' d (by simp [List.mem_of_getElem? hd'])⟩
              refine .fn g us _ _ df s2.d (by simp at m5 ⊢; omega) (fun i v d hv hd' => ?_) m1.dfr
              obtain ⟨q1, q2⟩ := hall i v d (by rw [← hv]; simp [← Array.getElem?_toList]) hd'
              exact ⟨q1, fun b => Zgt q1 q2⟩
            refine ⟨G', g, us, vs ++ c.args.map (ev tm), first ++ ds ++ cap, rfl, ?_, by simp [m3], m6, m4, fun l hl => hr l hl, ?_, ?_⟩
            · simp [execOp, ho, resolve, hf, hfv, Deferred.ofValue]
            · exact { L := m1.L, P := m1.P, len := m1.len, nd := m1.nd, obS := m1.obS, H := m1.H, S := m1.S, one := m1.one, noob := m1.noob, dfr := by simpa using hrel }
            · exact m2
      · simp at hx
  · simp at hx

/-- recover asks the machine. -/
theorem op_recover {o : Oper} {c : Call} (ho : o.op = .call c) (hc : c.callee = .builtin .recover) (w : World) : (execOp (ev tm) o).run P w = .ok .recover w := by
  rw [run_builtin ho hc]; simp [builtin]

/-- All that come to a value. -/
theorem op_all (h : RelSt w G tm df pv pd s) {rest : List Oper} {o : Oper} {d : D} {s1 : St} (hx : exOp P rest o s = some (.val d, s1))
    (h1 : ∀ c, o.op ≠ .defer c) (h2 : ∀ c, o.op = .call c → c.callee ≠ .builtin .recover) : Zi6 P w G tm df pv pd s o d s1 := by
  cases ho : o.op
  case move => exact op_move h ho hx
  case assign => exact op_assign h ho hx
  case pick => exact op_pick h ho hx
  case alloc => exact op_alloc h ho hx
  case box => exact op_box h ho hx
  case build => exact op_build h ho hx
  case buildSlice => exact op_buildSlice h ho hx
  case load => exact op_load h ho hx
  case store => exact op_store h ho hx
  case nilCheck => exact op_nilCheck h ho hx
  case binOp => exact op_binOp h ho hx
  case unOp => exact op_unOp h ho hx
  case convert => exact op_convert h ho hx
  case makeInterface => exact op_makeInterface h ho hx
  case makeFunc => exact op_makeFunc h ho hx
  case makeMap => exact op_makeMap h ho hx
  case makeSlice => exact op_makeSlice h ho hx
  case slice => exact op_slice h ho hx
  case fieldAddr => exact op_fieldAddr h ho hx
  case field => exact op_field h ho hx
  case indexAddr => exact op_indexAddr h ho hx
  case index => exact op_index h ho hx
  case lookup => exact op_lookup h ho hx
  case mapUpdate => exact op_mapUpdate h (.inl ho) hx
  case insert => exact op_mapUpdate h (.inr ho) hx
  case typeAssert => exact op_typeAssert h ho hx
  case extract => exact op_extract h ho hx
  case defer c => exact absurd ho (h1 c)
  case call c =>
    cases hc : c.callee
    case builtin b =>
      cases b
      case len => exact op_len h ho hc hx
      case append => exact op_append h ho hc hx
      case min => exact op_minmax h ho (.inl hc) hx
      case max => exact op_minmax h ho (.inr hc) hx
      case recover => exact absurd hc (h2 c ho)
      all_goals (exfalso; simp only [exOp, ho, hc] at hx; unfold Zfs at hx; (repeat' (split at hx)) <;> first | contradiction | (simp at hx; done))
    all_goals (exfalso; simp [exOp, ho, hc] at hx)
  case panic x => exfalso; simp only [exOp, ho] at hx; (repeat' (split at hx)) <;> simp at hx
  all_goals (exfalso; simp [exOp, ho] at hx)

end

end Go.Abs

namespace Go.Abs

section
variable {P : Program} {F : Fr} {w : World} {G : Gh} {tm : List Value} {df : List Deferred} {k : List Item} {cs : List Frame} {s : St}

theorem bool_rel {v : Value} {d : D} {b : Bool} (h : RelD w G v d) (hv : v = .bool b) : d = .e (.bool b) := by
  subst hv
  cases h with
  | e _ _ h => cases h; rfl

theorem want_rel (h : RelSt w G tm df [] [] s) (all : Array Oper) (o : Oper) : Region.wanted o (yielded all tm.toArray) = want all o s := by
  unfold want Region.wanted
  cases hg : o.guard with
  | none => simp
  | some g =>
    obtain ⟨j, b⟩ := g
    simp only [yielded]
    cases hd : (all[j]?).bind (·.dst) with
    | none => simp
    | some t =>
      have hl := h.L.len
      simp only [Option.bind_some, List.getElem?_toArray]
      cases htm : tm[t]? with
      | none =>
        have hlt := List.getElem?_eq_none_iff.1 htm
        rw [List.getElem?_eq_none (show s.t.length ≤ t by omega)]
        simp
      | some v =>
        have hlt := (List.getElem?_eq_some_iff.1 htm).1
        have hst : s.t[t]? = some s.t[t] := List.getElem?_eq_getElem (by omega)
        have hr := h.L.rel t v _ htm hst
        rw [hst]
        cases hv : v with
        | bool c =>
          have := bool_rel hr hv
          rw [this]
          simp
        | _ =>
          have hne : ∀ c, s.t[t] ≠ D.e (.bool c) := by
            intro c e
            rw [e] at hr
            have := Zie hr
            rw [this] at hv; cases hv
          have hR : (match some s.t[t] with | some (.e (.bool c)) => c == b | _ => false) = false := by
            split
            · rename_i c hc
              simp at hc
              exact absurd hc (hne c)
            · rfl
          exact Eq.trans (by rfl) hR.symm

/-- What a slot takes over. -/
theorem Ok.put {w' : World} {G' : Gh} {s1 : St} {v : Value} {d : D} {df' : List Deferred} {cs' : List Frame} (h : RelSt w' G' tm df' [v] [d] s1) (hr : RcOK w' G' F cs' s1.r) (hm : ∀ b, cM df' b ≤ 1) (dst : Option Tmp) :
    Ok w' G' F (putV tm dst v) df' cs' (s1.put dst d) ∧ ∀ b, cntS w' G' (putV tm dst v) [] [] (s1.put dst d) b ≤ cntS w' G' tm [v] [d] s1 b := by
  cases dst with
  | none => exact ⟨⟨h.drop, hr, hm⟩, fun b => Zgm b⟩
  | some t => exact ⟨⟨h.put t, hr, hm⟩, fun b => cnt_put h.L.len t b⟩

theorem put_r (s : St) (dst : Option Tmp) (d : D) : (s.put dst d).r = s.r := by cases dst <;> rfl

/-- The operation's slot is filled: on it goes. -/
theorem Arr.put {all : Array Oper} {is : List Nat} {m : Machine} {o : Oper} {w' : World} {G' : Gh} {s1 s2 : St} {v : Value} {d : D} {X : X} {df' : List Deferred} {cs' : List Frame}
    (hst : Steps P m (lone (mkF F (putV tm o.dst v) df' (.inRegion all is :: k)) cs' w')) (h : RelSt w' G' tm df' [v] [d] s1) (hr : RcOK w' G' F cs' s1.r) (hm : ∀ b, cM df' b ≤ 1)
    (he : Ext w G (fun b => cntS w G tm [] [] s b + cM df b) w' G' (fun b => cntS w' G' tm [v] [d] s1 b + cM df' b)) (hc : CsTo s.r s1.r cs cs') (hro : F.ro ≠ none → df' = df)
    (g : Ok w' G' F (putV tm o.dst v) df' cs' (s1.put o.dst d) → Arr P (lone (mkF F (putV tm o.dst v) df' (.inRegion all is :: k)) cs' w') F w' G' (putV tm o.dst v) df' k cs' (s1.put o.dst d) X s2) :
    Arr P m F w G tm df k cs s X s2 := by
  obtain ⟨q1, q2⟩ := Ok.put h hr hm o.dst
  obtain ⟨w2, G2, tm2, df2, cs2, a1, a2, a3⟩ := g q1
  refine ⟨w2, G2, tm2, df2, cs2, a1.of_steps hst, a2, ?_⟩
  have t1 : To F w G tm df cs s w' G' (putV tm o.dst v) df' cs' (s1.put o.dst d) :=
    ⟨he.weaken (fun _ => Nat.le_refl _) (fun b hb => by have := he.cnt b hb; have := q2 b; omega), by rw [put_r]; exact hc, hro⟩
  exact t1.trans a3

theorem is_cons {all : Array Oper} {is : List Nat} {o : Oper} {rest : List Oper} (h : is.map (fun i => all[i]?) = (o :: rest).map some) : ∃ i is', is = i :: is' ∧ all[i]? = some o ∧ is'.map (fun i => all[i]?) = rest.map some := by
  cases is with
  | nil => simp at h
  | cons i is' => simp at h; exact ⟨i, is', rfl, h.1, h.2⟩

theorem mo_skip {all : Array Oper} {o : Oper} {rest : List Oper} {r : Abs.X × St} (hw : want all o s = false) (h : MO P all rest (s.put o.dst Zav) r) : MO P all (o :: rest) s r := by
  intro F w G tm df k cs is hi h'
  obtain ⟨i, is', rfl, ho, hi'⟩ := is_cons hi
  have hst := go_unwanted (P := P) (F := F) (tm := tm) (df := df) (k := k) (cs := cs) (w := w) (is := is') ho (by rw [want_rel h'.rel]; exact hw)
  exact Arr.put (.one hst) (h'.rel.dup (Zho w G) Ze6) h'.rc h'.mks
    ((Ext.refl w G _).weaken (fun _ => Nat.le_refl _) (fun b _ => by have := Ze6 b; simp only [cntS, sumZ]; omega)) (.refl _ _) (fun _ => rfl)
    (fun hk => h F w G _ df k cs is' hi' hk)

theorem mo_val {all : Array Oper} {o : Oper} {rest rest' : List Oper} {r : Abs.X × St} {d : D} {s1 : St} (hw : want all o s = true) (hx : exOp P rest' o s = some (.val d, s1)) (h : MO P all rest (s1.put o.dst d) r) : MO P all (o :: rest) s r := by
  intro F w G tm df k cs is hi h'
  obtain ⟨i, is', rfl, ho, hi'⟩ := is_cons hi
  have hww : Region.wanted o (yielded all tm.toArray) = true := by rw [want_rel h'.rel]; exact hw
  by_cases hdf : ∃ c, o.op = .defer c
  · obtain ⟨c, hc⟩ := hdf
    obtain ⟨G', g, cap, args, ds, rfl, q1, q2, q3, q4, q5, q6, q7⟩ := op_defer h'.rel hc hx
    have hro : F.ro = none := by
      have := h'.rc
      cases hr : s.r with
      | rnd l => exact absurd hr (q5 l)
      | no => rw [hr] at this; exact this
      | nil => rw [hr] at this; exact this.1
      | avail d => rw [hr] at this; exact this.1
      | took => rw [hr] at this; exact this.1
    have hcm : ∀ b, cM ({ target := .fn (.func g) cap, args := args } :: df) b = cM df b := fun b => by simp [cM]
    refine Arr.put (v := undef) (d := Zav) (df' := { target := .fn (.func g) cap, args := args } :: df) (cs' := cs) (.one (go_defer ho hww hro q1)) (q6.dup (Zho w G') Ze6) (by rw [q4]; exact h'.rc.keep q7.later) (fun b => by rw [hcm]; exact h'.mks b) ?_ (by rw [q4]; exact .refl _ _) (fun hr => absurd hro hr)
      (fun hk => h F w G' _ _ k cs is' hi' hk)
    refine q7.weaken (fun b => by omega) (fun b hb => ?_)
    have := q7.cnt b hb; have := Ze6 b; have := hcm b
    simp only [cntS, sumZ] at *; omega
  · have hnd : ∀ c, o.op ≠ .defer c := fun c hc => hdf ⟨c, hc⟩
    by_cases hrc : ∃ c, o.op = .call c ∧ c.callee = .builtin .recover
    · obtain ⟨c, hc, hcc⟩ := hrc
      simp only [exOp, hc, hcc] at hx
      unfold Zfs at hx
      split at hx
      all_goals try contradiction
      have hrun := op_recover (P := P) (tm := tm) hc hcc w
      have hrc := h'.rc
      split at hx
      · rename_i d0 hr
        simp at hx; obtain ⟨rfl, rfl⟩ := hx
        rw [hr] at hrc
        obtain ⟨h1, h2, c0, t, v, rfl, h4, h5, h6⟩ := hrc
        refine Arr.put (v := v) (d := d0) (df' := df) (cs' := { c0 with mode := .panicking [{ v := v, recovered := true }] } :: t) (.one (go_recover_took ho hww h1 h2 h4 hrun)) ?_ ?_ h'.mks ?_ ?_ (fun _ => rfl) (fun hk => h F w G _ _ k _ is' hi' hk)
        · exact { L := h'.rel.L, P := h'.rel.P.cons h5 (Zfm h6), len := h'.rel.len, nd := h'.rel.nd, obS := h'.rel.obS, H := h'.rel.H, S := h'.rel.S, dfr := h'.rel.dfr
                  one := fun b => by have := h'.rel.one b; simp only [sumZ, h6 b] at *; omega
                  noob := fun b hb => by have := h'.rel.noob b hb; simp only [sumZ, h6 b] at *; omega }
        · exact ⟨h1, h2, _, t, v, rfl, rfl⟩
        · refine (Ext.refl w G _).weaken (fun _ => Nat.le_refl _) (fun b _ => ?_)
          have := h6 b; simp only [cntS, sumZ]; omega
        · exact .inr ⟨d0, c0, t, v, hr, rfl, rfl, h4, rfl⟩
      · rename_i hr
        simp at hx; obtain ⟨rfl, rfl⟩ := hx
        rw [hr] at hrc
        obtain ⟨h1, h2, c0, t, v, rfl, h4⟩ := hrc
        refine Arr.put (v := .nilIface) (d := .e .nilif) (df' := df) (cs' := c0 :: t) (.one (go_recover_nil ho hww h1 h2 (.inr ⟨v, h4⟩) hrun)) (h'.rel.dup (.e _ _ .nilif) (fun b => e_tok b _ _)) h'.rc h'.mks ?_ (.refl _ _) (fun _ => rfl) (fun hk => h F w G _ _ k _ is' hi' hk)
        refine (Ext.refl w G _).weaken (fun _ => Nat.le_refl _) (fun b _ => ?_)
        have := e_tok b .nilIface .nilif; simp only [cntS, sumZ]; omega
      · rename_i hr
        simp at hx; obtain ⟨rfl, rfl⟩ := hx
        rw [hr] at hrc
        obtain ⟨h1, h2, c0, t, rfl, h4⟩ := hrc
        refine Arr.put (v := .nilIface) (d := .e .nilif) (df' := df) (cs' := c0 :: t) (.one (go_recover_nil ho hww h1 h2 (.inl h4) hrun)) (h'.rel.dup (.e _ _ .nilif) (fun b => e_tok b _ _)) h'.rc h'.mks ?_ (.refl _ _) (fun _ => rfl) (fun hk => h F w G _ _ k _ is' hi' hk)
        refine (Ext.refl w G _).weaken (fun _ => Nat.le_refl _) (fun b _ => ?_)
        have := e_tok b .nilIface .nilif; simp only [cntS, sumZ]; omega
      · simp at hx
      · simp at hx
    · obtain ⟨w', G', nx, v, q1, q2, q3, q4, q5, q6⟩ := op_all h'.rel hx hnd (fun c hc hcc => hrc ⟨c, hc, hcc⟩)
      refine Arr.put (v := v) (d := d) (df' := df) (cs' := cs) (.one (go_oper ho hww (.inr hnd) q1 q2)) q3 (by rw [q6]; exact h'.rc.keep q4.later) h'.mks ?_ (by rw [q6]; exact .refl _ _) (fun _ => rfl) (fun hk => h F w' G' _ _ k _ is' hi' hk)
      exact q4.weaken (fun b => by omega) (fun b hb => by have := q4.cnt b hb; omega)

theorem mo_pan {all : Array Oper} {o : Oper} {rest : List Oper} {d : D} {s1 : St} (hw : want all o s = true) (hx : exOp P rest o s = some (.pan d, s1)) : MO P all (o :: rest) s (.pan d, s1) := by
  intro F w G tm df k cs is hi h'
  obtain ⟨i, is', rfl, ho, hi'⟩ := is_cons hi
  have hww : Region.wanted o (yielded all tm.toArray) = true := by rw [want_rel h'.rel]; exact hw
  obtain ⟨rfl, hnd, v, q1, q2, q3⟩ := op_pan h'.rel hx
  exact ⟨w, G, tm, df, cs, ⟨_, v, rfl, .one (go_panic ho hww (.inr hnd) q1), q2, q3⟩, h', .refl _ _ _ _ _ _ _⟩

end

end Go.Abs

namespace Go.Abs

/-- May it be called? -/
def Callable (P : Program) (f : FuncId) : Prop := ∃ fn, P.funcs[f]? = some fn ∧ bodyOf fn ≠ none

theorem run_callFunc {P : Program} {f : FuncId} (h : Callable P f) (args : Array Value) (w : World) : (callFunc f args).run P w = .ok (.enter f args) w := by
  obtain ⟨fn, h1, h2⟩ := h
  unfold bodyOf at h2
  split at h2
  · exact absurd rfl h2
  · rename_i hn
    have hb : fn.body.isNone = false := by cases hb : fn.body <;> simp_all
    have hn' : fn.name ≠ "runtime.NumGoroutine" := by simpa using hn
    simp [callFunc, h1, hn', h2]

/-- The mode of a frame that unwinds. -/
def MdOK (w : World) (G : Gh) (m : FrameMode) : Option D → Prop
  | none => m = .returning
  | some d => ∃ v, m = .panicking [{ v := v, recovered := false }] ∧ RelD w G v d ∧ ∀ b, tokT b v d = 0

/-- A state that has memory alone. -/
abbrev hSt (h : List O) : St := { t := [], d := [], r := .no, h := h }

/-- What a call owes. -/
def MC (P : Program) (g : Tgt) (args : List D) (h : List O) (r : Out × List O) : Prop :=
  match g with
  | .fn f => Callable P f ∧ ∀ (w : World) (G : Gh) (vs : List Value) (cs : List Frame), RelSt w G [] [] vs args (hSt h) →
      ∃ w' G' fr v d, Steps P (lone (Frame.enter P f vs.toArray .normal) cs w) (lone fr cs w') ∧ fr.fn = f ∧ RelSt w' G' [] [] [v] [d] (hSt r.2) ∧
        Ext w G (cntS w G [] vs args (hSt h)) w' G' (cntS w' G' [] [v] [d] (hSt r.2)) ∧
        ((r.1 = .val d ∧ fr.leaving P w' (.returned v)) ∨ (r.1 = .pan d ∧ fr.leaving P w' (.panicked [{ v := v, recovered := false }]) ∧ ∀ b, tokT b v d = 0))
  | .round l => ∀ (w : World) (G : Gh) (vs : List Value) (c : Frame) (cs : List Frame) (b : Nat), G.ob[l]? = some b → RelSt w G [] [] vs args (hSt h) →
      ∃ L, w.heap[b]? = some (.loop L) ∧ L.params.size = vs.length ∧ ∃ w' G' c' v d,
        Steps P (lone (Frame.round b L.fn ((L.params.zip vs.toArray).foldl (fun tmps (x : Tmp × Value) => tmps.setIfInBounds x.1 x.2) L.tmps) L.assign L.body .normal) (c :: cs) w) (lone c' cs w') ∧
        RelSt w' G' [] [] [v] [d] (hSt r.2) ∧ Ext w G (cntS w G [] vs args (hSt h)) w' G' (cntS w' G' [] [v] [d] (hSt r.2)) ∧
        ((r.1 = .val d ∧ c' = c.finish v) ∨ (r.1 = .pan d ∧ c' = c.raise [{ v := v, recovered := false }] ∧ ∀ b, tokT b v d = 0))
  | .dfn f u => Callable P f ∧ ∀ (w : World) (G : Gh) (vs : List Value) (c : Frame) (cs : List Frame), RelSt w G [] [] vs args (hSt h) → MdOK w G c.mode u →
      ∃ w' G' c', Steps P (lone (Frame.enter P f vs.toArray .deferred) (c :: cs) w) (lone c' cs w') ∧ RelSt w' G' [] [] [] [] (hSt r.2) ∧
        Ext w G (cntS w G [] vs args (hSt h)) w' G' (cntS w' G' [] [] [] (hSt r.2)) ∧
        (((∃ d, r.1 = .val d) ∧ c' = c) ∨ ((∃ d, r.1 = .rcv d) ∧ u ≠ none ∧ c' = { c with mode := .returning }))

section
variable {P : Program} {F : Fr} {w : World} {G : Gh} {tm : List Value} {df : List Deferred} {k : List Item} {cs : List Frame} {s : St}

/-- What a caller holds out: the arguments alone. -/
theorem RelSt.args {vs pv : List Value} {ds pd : List D} (h : RelSt w G tm df (vs ++ pv) (ds ++ pd) s) (hl : vs.length = ds.length) :
    RelSt w G [] [] vs ds (hSt s.h) ∧ ∀ b, cntS w G [] vs ds (hSt s.h) b + sumZ (tokT b) tm s.t + sumZ (tokT b) pv pd = cntS w G tm (vs ++ pv) (ds ++ pd) s b := by
  have hp : ∀ b, sumZ (tokT b) (vs ++ pv) (ds ++ pd) = sumZ (tokT b) vs ds + sumZ (tokT b) pv pd := fun b => Zg4 _ _ _ _ _ hl
  refine ⟨{ L := .nil w G, P := (h.P.split hl).1, len := h.len, nd := h.nd, obS := h.obS, H := h.H, S := h.S, one := ?_, noob := ?_, dfr := .nil }, ?_⟩
  · intro b; have := h.one b; simp only [hp, sumZ] at *; omega
  · intro b hb; have := h.noob b hb; simp only [hp, sumZ] at *; omega
  · intro b; simp only [cntS, hp, sumZ]; omega

/-- More that nobody owns alone is held out. -/
theorem RelSt.more {vs pv : List Value} {ds pd : List D} (h : RelSt w G tm df pv pd s) (hl : vs.length = ds.length) (h1 : ∀ (i : Nat) v d, vs[i]? = some v → ds[i]? = some d → RelD w G v d ∧ ownD d = false) :
    RelSt w G tm df (vs ++ pv) (ds ++ pd) s ∧ ∀ b, cntS w G tm (vs ++ pv) (ds ++ pd) s b = cntS w G tm pv pd s b := by
  have hz : ∀ b, sumZ (tokT b) vs ds = 0 := fun b => Zgu _ _ _ (fun i v d hi hd => Zgt (h1 i v d hi hd).1 (h1 i v d hi hd).2)
  have hp : ∀ b, sumZ (tokT b) (vs ++ pv) (ds ++ pd) = sumZ (tokT b) pv pd := fun b => by rw [Zg4 _ _ _ _ _ hl, hz]; omega
  refine ⟨{ L := h.L, P := ?_, len := h.len, nd := h.nd, obS := h.obS, H := h.H, S := h.S, one := ?_, noob := ?_, dfr := h.dfr }, ?_⟩
  · exact RelL.append ⟨hl, fun i v d hi hd => (h1 i v d hi hd).1, fun i v d hi hd => Zfm (fun b => Zgt (h1 i v d hi hd).1 (h1 i v d hi hd).2)⟩ h.P
  · intro b; have := h.one b; simp only [hp] at *; omega
  · intro b hb; have := h.noob b hb; simp only [hp] at *; omega
  · intro b; simp only [cntS, hp]

/-- What is behind a call, for its caller. -/
theorem call_back {vs : List Value} {ds : List D} {s1 : St} {c : Nat → Nat} (h : RelSt w G tm df vs ds s1) (hc : ∀ b, cntS w G tm vs ds s1 b ≤ c b) {w' : World} {G' : Gh} {v : Value} {d : D} {h2 : List O}
    (k : RelSt w' G' [] [] [v] [d] (hSt h2)) (e : Ext w G (cntS w G [] vs ds (hSt s1.h)) w' G' (cntS w' G' [] [v] [d] (hSt h2))) :
    RelSt w' G' tm df [v] [d] { s1 with h := h2 } ∧ Ext w G c w' G' (cntS w' G' tm [v] [d] { s1 with h := h2 }) := by
  have hl := h.P.len
  have h' : RelSt w G tm df (vs ++ []) (ds ++ []) s1 := by simpa using h
  obtain ⟨_, a2⟩ := h'.args hl
  obtain ⟨q1, q2⟩ := h'.back (tm2 := []) (df2 := []) hl k e (fun b => by have := a2 b; omega) (fun b => by simp only [cntS, sumZ]; omega)
  refine ⟨by simpa using q1, q2.weaken (fun b => by have := hc b; simpa using this) (fun b hb => ?_)⟩
  have := q2.cnt b hb; have := hc b
  simp only [List.append_nil] at *; omega

theorem mo_go {all : Array Oper} {o : Oper} {rest : List Oper} {r : Abs.X × St} {g : Tgt} {args : List D} {s1 : St} {rc : Out × List O} (hw : want all o s = true) (hk : Zfb o s = .go g args s1) (hc : MC P g args s1.h rc)
    (h2 : (∃ d, rc.1 = .val d ∧ MO P all rest (({ s1 with h := rc.2 } : St).put o.dst d) r) ∨ (∃ d, rc.1 = .pan d ∧ r = (.pan d, { s1 with h := rc.2 }))) : MO P all (o :: rest) s r := by
  intro F w G tm df k cs is hi h'
  obtain ⟨i, is', rfl, ho, hi'⟩ := is_cons hi
  have hww : Region.wanted o (yielded all tm.toArray) = true := by rw [want_rel h'.rel]; exact hw
  -- what is left when the call is behind
  have fin : ∀ (w' : World) (G' : Gh) (vs : List Value) (ds : List D) (v : Value) (d : D), RelSt w G tm df vs ds s1 → (∀ b, cntS w G tm vs ds s1 b ≤ cntS w G tm [] [] s b) → s1.r = s.r →
      RelSt w' G' [] [] [v] [d] (hSt rc.2) → Ext w G (cntS w G [] vs ds (hSt s1.h)) w' G' (cntS w' G' [] [v] [d] (hSt rc.2)) →
      ((rc.1 = .val d ∧ Steps P (lone (mkF F tm df (.inRegion all (i :: is') :: k)) cs w) (lone (mkF F (putV tm o.dst v) df (.inRegion all is' :: k)) cs w')) ∨
        (rc.1 = .pan d ∧ Steps P (lone (mkF F tm df (.inRegion all (i :: is') :: k)) cs w) (lone (panF F tm df (.inRegion all (i :: is') :: k) v) cs w') ∧ ∀ b, tokT b v d = 0)) →
      Arr P (lone (mkF F tm df (.inRegion all (i :: is') :: k)) cs w) F w G tm df k cs s r.1 r.2 := by
    intro w' G' vs ds v d m1 m2 m3 k1 k2 hs
    obtain ⟨q1, q2⟩ := call_back m1 m2 k1 k2
    rcases hs with ⟨hv, hst⟩ | ⟨hp, hst, ht⟩
    · rcases h2 with ⟨d', e1, h2⟩ | ⟨d', e1, _⟩
      · rw [hv] at e1; cases e1
        refine Arr.put (v := v) (d := d) hst q1 (by rw [show ({ s1 with h := rc.2 } : St).r = s.r from m3]; exact h'.rc.keep q2.later) h'.mks ?_ (by rw [show ({ s1 with h := rc.2 } : St).r = s.r from m3]; exact .refl _ _) (fun _ => rfl)
          (fun hk => h2 F w' G' _ _ k _ is' hi' hk)
        exact q2.weaken (fun b => by omega) (fun b hb => by have := q2.cnt b hb; omega)
      · rw [hv] at e1; cases e1
    · rcases h2 with ⟨d', e1, _⟩ | ⟨d', e1, rfl⟩
      · rw [hp] at e1; cases e1
      · rw [hp] at e1; cases e1
        refine ⟨w', G', tm, df, cs, ⟨_, v, rfl, hst, (k1.P.head).1, ht⟩, ⟨q1.drop, by rw [show ({ s1 with h := rc.2 } : St).r = s.r from m3]; exact h'.rc.keep q2.later, h'.mks⟩, ⟨?_, by rw [show ({ s1 with h := rc.2 } : St).r = s.r from m3]; exact .refl _ _, fun _ => rfl⟩⟩
        exact q2.weaken (fun b => by omega) (fun b hb => by dsimp only; have := q2.cnt b hb; have := Zgm (w := w') (G := G') (tm := tm) (pv := []) (pd := []) (s := { s1 with h := rc.2 }) (v := v) (d := d) b; omega)
  unfold Zfb at hk
  split at hk
  · rename_i c hop
    have hnd : ∀ c', o.op ≠ .defer c' := by rw [hop]; simp
    split at hk
    · rename_i f hcal
      split at hk
      · rename_i g0 first cap ds s1' hrd htk
        split at hk
        · rename_i hno
          simp only [Kind.go.injEq] at hk
          obtain ⟨rfl, rfl, rfl⟩ := hk
          simp only [noOwn, Bool.and_eq_true, List.all_eq_true, Bool.not_eq_true'] at hno
          have rf := Zgg h'.rel hrd
          generalize hfv : ev tm f = fv at rf
          cases rf with
          | func _ vs us _ _ l1 l2 hd hcc =>
            obtain ⟨a1, a2⟩ := h'.rel.more (vs := us.toList) (ds := cap) (by simpa using l2) (fun i v d hv hd' => ⟨hcc i v d (by simpa using hv) hd', hno.2 d (List.mem_of_getElem? hd')⟩)
            obtain ⟨b1, b2, b3, b4, b5, b6⟩ := tks_rel _ a1 htk
            obtain ⟨c1, c2⟩ := b1.more (vs := vs.toList) (ds := first) (by simpa using l1) (fun i v d hv hd' => ⟨hd i v d (by simpa using hv) hd', hno.1 d (List.mem_of_getElem? hd')⟩)
            have c1' : RelSt w G tm df (vs.toList ++ (c.args.toList.map (ev tm) ++ us.toList)) (first ++ ds ++ cap) s1' := by simpa using c1
            have hl := c1'.P.len
            obtain ⟨d1, d2⟩ := (show RelSt w G tm df ((vs.toList ++ (c.args.toList.map (ev tm) ++ us.toList)) ++ []) ((first ++ ds ++ cap) ++ []) s1' by simpa using c1').args hl
            obtain ⟨hcal1, hcal2⟩ := hc
            obtain ⟨w', G', fr, v, d, e1, e2, e3, e4, e5⟩ := hcal2 w G _ (mkF F tm df (.inRegion all (i :: is') :: k) :: cs) d1
            have hrun : (execOp (ev tm) o).run P w = .ok (.enter g0 (vs.toList ++ (c.args.toList.map (ev tm) ++ us.toList)).toArray) w := by
              have := run_callFunc hcal1 (vs ++ c.args.map (ev tm) ++ us) w
              have ea : (vs.toList ++ (c.args.toList.map (ev tm) ++ us.toList)).toArray = vs ++ c.args.map (ev tm) ++ us := by apply Array.ext'; simp
              rw [ea]
              simp only [execOp, hop, resolve, hcal, hfv, Deferred.ofValue, invoke, Sem.run_bind, Sem.run_pure, Result.andThen_ok]
              exact this
            refine fin w' G' _ _ v d c1' (fun b => ?_) b6 e3 e4 ?_
            · have := a2 b; have := b3 b; have := c2 b
              simp only [List.append_nil, List.append_assoc] at *; omega
            · rcases e5 with ⟨e5, e6⟩ | ⟨e5, e6, e7⟩
              · refine .inl ⟨e5, .head (go_enter ho hww (.inr hnd) hrun) (e1.trans (.one ?_))⟩
                rw [← finish_mkF ho v]
                exact step_leave_returned e6
              · exact .inr ⟨e5, .head (go_enter ho hww (.inr hnd) hrun) (e1.trans (.one (step_leave_panicked e6))), e7⟩
        · simp at hk
      · rename_i l ds s1' hrd htk
        simp only [Kind.go.injEq] at hk
        obtain ⟨rfl, rfl, rfl⟩ := hk
        have rf := Zgg h'.rel hrd
        generalize hfv : ev tm f = fv at rf
        cases rf with
        | yield _ bl hbl =>
          obtain ⟨b1, b2, b3, b4, b5, b6⟩ := tks_rel _ h'.rel htk
          have b1' : RelSt w G tm df (c.args.toList.map (ev tm)) ds s1' := by simpa using b1
          have hl := b1'.P.len
          obtain ⟨d1, d2⟩ := b1.args hl
          obtain ⟨L, hL1, hL2, w', G', c', v, d, e1, e2, e3, e4⟩ := hc w G _ (mkF F tm df (.inRegion all (i :: is') :: k)) cs bl hbl d1
          have hsz : (c.args.map (ev tm)).size = L.params.size := by rw [hL2]; simp
          have hrun : (execOp (ev tm) o).run P w = .ok (.round bl L.fn ((L.params.zip (c.args.toList.map (ev tm)).toArray).foldl (fun tmps (x : Tmp × Value) => tmps.setIfInBounds x.1 x.2) L.tmps) L.assign L.body) w := by
            have ea : (c.args.toList.map (ev tm)).toArray = c.args.map (ev tm) := by apply Array.ext'; simp
            have hsz' : c.args.size = L.params.size := by simpa using hsz
            rw [ea]
            simp [execOp, hop, resolve, hcal, hfv, Deferred.ofValue, invoke, Instr.yield, Instr.getLoop, getObj, Sem.run, hL1, hsz']
          refine fin w' G' _ _ v d b1' (fun b => ?_) b6 e2 e3 ?_
          · have := b3 b
            simp only [List.append_nil] at *; omega
          · rcases e4 with ⟨e5, rfl⟩ | ⟨e5, rfl, e7⟩
            · refine .inl ⟨e5, .head (go_round ho hww (.inr hnd) hrun) ?_⟩
              rw [← finish_mkF ho v]; exact e1
            · exact .inr ⟨e5, .head (go_round ho hww (.inr hnd) hrun) e1, e7⟩
      · simp at hk
    · simp at hk
    · simp at hk
  · simp at hk

end

end Go.Abs

namespace Go.Abs

section
variable {P : Program} {F : Fr} {w : World} {G : Gh} {tm : List Value} {df : List Deferred} {pv : List Value} {pd : List D} {k : List Item} {cs : List Frame} {s : St}

theorem RelDf.keep' {w w' : World} {G G' : Gh} {df : List Deferred} {l : List (FuncId × List D)} (h : RelDf w G df l) (k : Later w G w' G')
    (hm : ∀ b, 0 < cM df b → w.heap[b]? = some (.deferred (some [])) → b ∉ G.ob → w'.heap[b]? = w.heap[b]? ∧ b ∉ G'.ob) : RelDf w' G' df l := by
  induction h with
  | nil => exact .nil
  | fn g cap args ds df l hl h _ ih => exact .fn g cap args ds df l hl (fun i v d hi hd => ⟨(h i v d hi hd).1.mono k, (h i v d hi hd).2⟩) (ih (fun b hb => hm b (by simpa [cM] using hb)))
  | mark b df l hb ho _ ih =>
    have := hm b (by simp [cM]; omega) hb ho
    exact .mark b df l (this.1.trans hb) this.2 (ih (fun b' hb' => hm b' (by simp only [cM]; omega)))

theorem RelSt.unmark {b : Nat} {args : Array Value} (h : RelSt w G tm ({ target := .collected b, args := args } :: df) pv pd s) (hm : ∀ b', cM ({ target := .collected b, args := args } :: df) b' ≤ 1) :
    RelSt (setB w b (.deferred none)) G tm df pv pd s ∧
      Ext w G (fun b' => cntS w G tm pv pd s b' + cM ({ target := .collected b, args := args } :: df) b') (setB w b (.deferred none)) G (fun b' => cntS (setB w b (.deferred none)) G tm pv pd s b' + cM df b') ∧
      (Instr.takeDeferred b).run P w = .ok [] (setB w b (.deferred none)) := by
  have hdf := h.dfr
  have hb : w.heap[b]? = some (.deferred (some [])) ∧ b ∉ G.ob := by
    cases hdf with
    | mark _ _ _ hb ho _ => exact ⟨hb, ho⟩
  have ht : RelDf w G df s.d := by
    generalize s.d = l at hdf
    cases hdf with
    | mark _ _ _ _ _ ht => exact ht
  obtain ⟨hb, hob⟩ := hb
  have hne : ∀ b', (∃ arr e fz, w.heap[b']? = some (.cells arr e fz)) → b' ≠ b := by
    rintro b' ⟨arr, e, fz, h1⟩ rfl
    rw [hb] at h1; simp at h1
  have hneS : ∀ b' j, G.S b' j → b' ≠ b := by
    rintro b' j hs rfl
    obtain ⟨v, hv⟩ := h.S b' j hs
    simp only [World.cell?, hb] at hv
    simp at hv
  have hkeep : ∀ b', b' ≠ b → (setB w b (.deferred none)).heap[b']? = w.heap[b']? := fun b' hn => setB_ne hn
  have hcell : ∀ b' j, G.S b' j → (setB w b (.deferred none)).cell? ⟨b', j, none⟩ = w.cell? ⟨b', j, none⟩ := fun b' j hs => by simp only [World.cell?, hkeep b' (hneS b' j hs)]
  have later : Later w G (setB w b (.deferred none)) G := ⟨fun _ _ h => h, fun _ _ h => h, hcell⟩
  have hneO : ∀ b' ∈ G.ob, b' ≠ b := fun b' hb' e => hob (e ▸ hb')
  have hh : ∀ b', hsum (setB w b (.deferred none)) b' G.ob s.h = hsum w b' G.ob s.h := fun b' => Zi1 _ _ (fun i bi o h1 h2 => Zhb (hkeep bi (hneO bi (List.mem_of_getElem? h1))))
  refine ⟨{ L := ?_, P := ?_, len := h.len, nd := h.nd, obS := ?_, H := ?_, S := ?_, one := ?_, noob := ?_, dfr := ?_ }, ⟨later, by rw [setB_size]; exact Nat.le_refl _, fun b' hb' => .inl hb', fun _ _ _ _ _ hs => hs, fun b' _ h0 _ => ?_, fun b' _ => ?_, rfl, rfl⟩, ?_⟩
  · exact h.L.keep later (fun b' ht => ⟨hkeep b' (hne b' (h.L.tok_lt ht).2), fun _ hs => hs⟩)
  · exact h.P.keep later (fun b' ht => ⟨hkeep b' (hne b' (h.P.tok_lt ht).2), fun _ hs => hs⟩)
  · exact fun i b' hb' => ⟨by rw [setB_size]; exact (h.obS i b' hb').1, (h.obS i b' hb').2⟩
  · intro i b' o h1 h2
    exact (h.H i b' o h1 h2).keep later (hkeep b' (hneO b' (List.mem_of_getElem? h1))) (fun b2 ht => ⟨hkeep b2 (hne b2 ((h.H i b' o h1 h2).tok_lt ht).2), fun _ hs => hs⟩)
  · intro b' j hs; obtain ⟨v, hv⟩ := h.S b' j hs; exact ⟨v, (hcell b' j hs).trans hv⟩
  · intro b'; rw [hh b']; exact h.one b'
  · intro b' hb'; rw [hh b']; exact h.noob b' hb'
  · refine ht.keep' later (fun b' h0 h1 h2 => ⟨hkeep b' ?_, h2⟩)
    rintro rfl
    have := hm b'
    simp [cM] at this; omega
  · refine hkeep b' ?_
    rintro rfl
    simp [cM] at h0
  · simp only [cntS, hh b', cM]; omega
  · simp [Instr.takeDeferred, getObj, Go.setObj, Sem.run, hb, setB]

/-- A frame with a mode. -/
def mdF (F : Fr) (tm : List Value) (df : List Deferred) (k : List Item) (md : FrameMode) : Frame := { mkF F tm df k with mode := md }

theorem go_unmark {md : FrameMode} (hmd : md ≠ .run) {b : Nat} {args : Array Value} {w' : World} (hr : (Instr.takeDeferred b).run P w = .ok [] w') :
    step P (lone (mdF F tm ({ target := .collected b, args := args } :: df) k md) cs w) = .next (lone (mdF F tm df k md) cs w') :=
  step_lone_go (by
    cases md with
    | run => exact absurd rfl hmd
    | returning => simp [stepG, unwind, mdF, mkF, hr]
    | panicking ch => simp [stepG, unwind, mdF, mkF, hr])

theorem go_deferred {md : FrameMode} (hmd : md ≠ .run) {g : FuncId} {cap args : Array Value} (hc : Callable P g) :
    step P (lone (mdF F tm ({ target := .fn (.func g) cap, args := args } :: df) k md) cs w) = .next (lone (Frame.enter P g (args ++ cap) .deferred) (mdF F tm df k md :: cs) w) :=
  step_lone_go (by
    have hr := run_callFunc hc (args ++ cap) w
    cases md with
    | run => exact absurd rfl hmd
    | returning => simp [stepG, unwind, callDeferred, mdF, mkF, invoke, hr]
    | panicking ch => simp [stepG, unwind, callDeferred, mdF, mkF, invoke, hr])

theorem mdOK_run {md : FrameMode} {u : Option D} (h : MdOK w G md u) : md ≠ .run := by
  cases u with
  | none => rw [show md = .returning from h]; simp
  | some d => obtain ⟨v, rfl, _⟩ := h; simp

theorem MdOK.keep {w' : World} {G' : Gh} {md : FrameMode} {u : Option D} (h : MdOK w G md u) (k : Later w G w' G') : MdOK w' G' md u := by
  cases u with
  | none => exact h
  | some d => obtain ⟨v, h1, h2, h3⟩ := h; exact ⟨v, h1, h2.mono k, h3⟩

/-- What the deferred calls owe. -/
def MU (P : Program) (l : List (FuncId × List D)) (u : Option D) (h : List O) (q : Option D × List O) : Prop :=
  ∀ (F : Fr) (w : World) (G : Gh) (tm : List Value) (df : List Deferred) (k : List Item) (cs : List Frame) (t : List D) (r : Rc) (md : FrameMode),
    RelSt w G tm df [] [] { t := t, d := l, r := r, h := h } → (∀ b, cM df b ≤ 1) → MdOK w G md u →
    ∃ w' G' md', Steps P (lone (mdF F tm df k md) cs w) (lone (mdF F tm [] k md') cs w') ∧ RelSt w' G' tm [] [] [] { t := t, d := [], r := r, h := q.2 } ∧
      Ext w G (fun b => cntS w G tm [] [] { t := t, d := l, r := r, h := h } b + cM df b) w' G' (fun b => cntS w' G' tm [] [] { t := t, d := [], r := r, h := q.2 } b) ∧ MdOK w' G' md' q.1

/-- The marks on top are taken off. -/
theorem unmarks (P : Program) (F : Fr) (tm : List Value) (k : List Item) (cs : List Frame) (md : FrameMode) (hmd : md ≠ .run) (G : Gh) (s : St) : ∀ (df : List Deferred) (w : World), RelSt w G tm df [] [] s → (∀ b, cM df b ≤ 1) →
    ∃ w' df', Steps P (lone (mdF F tm df k md) cs w) (lone (mdF F tm df' k md) cs w') ∧ RelSt w' G tm df' [] [] s ∧ (∀ b, cM df' b ≤ 1) ∧
      Ext w G (fun b => cntS w G tm [] [] s b + cM df b) w' G (fun b => cntS w' G tm [] [] s b + cM df' b) ∧ (df' = [] ∨ ∃ g cap args df2, df' = { target := .fn (.func g) cap, args := args } :: df2)
  | [], w, h, hm => ⟨w, [], .refl _ _, h, hm, .refl _ _ _, .inl rfl⟩
  | x :: df, w, h, hm => by
    have hdf := h.dfr
    generalize hl : s.d = l at hdf
    cases hdf with
    | fn g cap args ds _ l' hl' hrel ht => exact ⟨w, _, .refl _ _, h, hm, .refl _ _ _, .inr ⟨g, cap, args, df, rfl⟩⟩
    | mark b _ _ hb ho ht =>
      obtain ⟨q1, q2, q3⟩ := h.unmark hm
      obtain ⟨w', df', a1, a2, a3, a4, a5⟩ := unmarks P F tm k cs md hmd G s df _ q1 (fun b' => by have := hm b'; simp only [cM] at this; omega)
      exact ⟨w', df', .head (go_unmark hmd q3) a1, a2, a3, q2.trans a4, a5⟩

theorem mu_nil {u : Option D} {h : List O} : MU P [] u h (u, h) := by
  intro F w G tm df k cs t r md hrel hm hmd
  obtain ⟨w', df', a1, a2, a3, a4, a5⟩ := unmarks P F tm k cs md (mdOK_run hmd) G _ df w hrel hm
  have hd := a2.dfr
  have : df' = [] := by
    rcases a5 with rfl | ⟨g, cap, args, df2, rfl⟩
    · rfl
    · cases hd
  subst this
  exact ⟨w', G, md, a1, a2, by simpa [cM] using a4, hmd.keep a4.later⟩

theorem mu_cons {g : FuncId} {args : List D} {ds : List (FuncId × List D)} {u u' : Option D} {h : List O} {rc : Out × List O} {q : Option D × List O} (hc : MC P (.dfn g u) args h rc)
    (hu : ((∃ d, rc.1 = .val d) ∧ u' = u) ∨ ((∃ d, rc.1 = .rcv d) ∧ u' = none)) (h2 : MU P ds u' rc.2 q) : MU P ((g, args) :: ds) u h q := by
  intro F w G tm df k cs t r md hrel hm hmd
  obtain ⟨w1, df1, a1, a2, a3, a4, a5⟩ := unmarks P F tm k cs md (mdOK_run hmd) G _ df w hrel hm
  have hd := a2.dfr
  obtain ⟨hcal, hc⟩ := hc
  rcases a5 with rfl | ⟨g', cap, vargs, df2, rfl⟩
  · cases hd
  · cases hd with
    | fn _ _ _ _ _ _ hl hr ht =>
      have b1 : RelSt w1 G tm df2 [] [] { t := t, d := ds, r := r, h := h } := { L := a2.L, P := a2.P, len := a2.len, nd := a2.nd, obS := a2.obS, H := a2.H, S := a2.S, one := a2.one, noob := a2.noob, dfr := ht }
      have hown : ∀ (i : Nat) v d, (vargs ++ cap).toList[i]? = some v → args[i]? = some d → RelD w1 G v d ∧ ∀ b, tokT b v d = 0 := fun i v d hv hd => hr i v d (by rw [Array.getElem?_toList] at hv; exact hv) hd
      -- the arguments are held out
      have hz : ∀ b, sumZ (tokT b) (vargs ++ cap).toList args = 0 := fun b => Zgu _ _ _ (fun i v d hi hd => (hown i v d hi hd).2 b)
      have c1 : RelSt w1 G tm df2 (vargs ++ cap).toList args { t := t, d := ds, r := r, h := h } := {
        L := b1.L
        P := ⟨hl, fun i v d hi hd => (hown i v d hi hd).1, fun i v d hi hd => Zfm (hown i v d hi hd).2⟩
        len := b1.len
        nd := b1.nd
        obS := b1.obS
        H := b1.H
        S := b1.S
        dfr := b1.dfr
        one := fun b => by have := b1.one b; simp only [hz b, sumZ] at *; omega
        noob := fun b hb => by have := b1.noob b hb; simp only [hz b, sumZ] at *; omega }
      have c1' : RelSt w1 G tm df2 ((vargs ++ cap).toList ++ []) (args ++ []) { t := t, d := ds, r := r, h := h } := by simpa using c1
      obtain ⟨d1, d2⟩ := c1'.args hl
      obtain ⟨w2, G2, c', e1, e2, e3, e4⟩ := hc w1 G _ (mdF F tm df2 k md) cs d1 (hmd.keep a4.later)
      obtain ⟨f1, f2⟩ := c1'.back (tm2 := []) (df2 := []) hl e2 e3 (fun b => Nat.le_of_eq (d2 b)) (fun b => by simp only [cntS, sumZ]; omega)
      have f1' : RelSt w2 G2 tm df2 [] [] { t := t, d := ds, r := r, h := rc.2 } := by simpa using f1
      have hm2 : ∀ b, cM df2 b ≤ 1 := fun b => by have := a3 b; simp only [cM] at this; omega
      have hmd2 : ∃ md2, c' = mdF F tm df2 k md2 ∧ MdOK w2 G2 md2 u' := by
        rcases e4 with ⟨⟨d, hv⟩, rfl⟩ | ⟨⟨d, hv⟩, hu', rfl⟩
        · rcases hu with ⟨_, rfl⟩ | ⟨⟨d', hv'⟩, rfl⟩
          · exact ⟨md, rfl, (hmd.keep a4.later).keep e3.later⟩
          · rw [hv] at hv'; cases hv'
        · rcases hu with ⟨⟨d', hv'⟩, rfl⟩ | ⟨_, rfl⟩
          · rw [hv] at hv'; cases hv'
          · exact ⟨.returning, rfl, rfl⟩
      obtain ⟨md2, rfl, hmd2⟩ := hmd2
      obtain ⟨w3, G3, md3, g1, g2, g3, g4⟩ := h2 F w2 G2 tm df2 k cs t r md2 f1' hm2 hmd2
      refine ⟨w3, G3, md3, a1.trans (.head (go_deferred (mdOK_run hmd) hcal) (Steps.trans ?_ g1)), g2, ?_, g4⟩
      · have : (vargs ++ cap).toList.toArray = vargs ++ cap := by simp
        rw [this] at e1; exact e1
      · refine a4.trans (Ext.trans ?_ g3)
        refine f2.weaken (fun b => ?_) (fun b hb => ?_)
        · simp only [cntS, List.append_nil, hz b, sumZ, cM]; omega
        · have := f2.cnt b hb
          simp only [cntS, List.append_nil, hz b, sumZ, cM] at *; omega

end

end Go.Abs

namespace Go.Abs

section
variable {P : Program} {F : Fr} {w : World} {G : Gh} {tm : List Value} {df : List Deferred} {pv : List Value} {pd : List D} {k : List Item} {cs : List Frame} {s : St}

/-- Slots are given up. -/
theorem RelSt.bare (h : RelSt w G tm df pv pd s) : RelSt w G [] [] pv pd (hSt s.h) ∧ ∀ b, cntS w G [] pv pd (hSt s.h) b ≤ cntS w G tm pv pd s b :=
  ⟨{ L := .nil w G, P := h.P, len := h.len, nd := h.nd, obS := h.obS, H := h.H, S := h.S, dfr := .nil
     one := fun b => by have := h.one b; simp only [sumZ] at *; omega
     noob := fun b hb => by have := h.noob b hb; simp only [sumZ] at *; omega }, fun b => by simp only [cntS, sumZ]; omega⟩

theorem bodyOf_some {fn : Func} {c : Code} (h : bodyOf fn = some c) : fn.body = some c := by
  unfold bodyOf at h; split at h
  · simp at h
  · exact h

theorem enter_mkF {f : FuncId} {fn : Func} {c : Code} (hf : P.funcs[f]? = some fn) (hb : bodyOf fn = some c) (vs : List Value) (kind : CallKind) :
    Frame.enter P f vs.toArray kind = mkF ⟨f, kind, none⟩ (vs ++ List.replicate (fn.ntmps - vs.length) undef) [] [.code c] := by
  simp [Frame.enter, mkF, hf, bodyOf_some hb]

theorem step_return_deferred {f : FuncId} {fn : Func} (hf : P.funcs[f]? = some fn) (hr : fn.results.isEmpty = true) {c c' : Frame}
    (hc : (c.mode = .returning ∧ c' = c) ∨ (∃ v, c.mode = .panicking [{ v := v, recovered := false }] ∧ c' = c) ∨ ∃ v, c.mode = .panicking [{ v := v, recovered := true }] ∧ c' = { c with mode := .returning }) :
    step P (lone (mdF ⟨f, .deferred, none⟩ tm [] k .returning) (c :: cs) w) = .next (lone c' cs w) :=
  step_lone_go (by
    have he : fn.results = #[] := by simpa using hr
    have hres : (results fn tm.toArray).run P w = .ok (.tuple #[]) w := by simp [results, he]
    rcases hc with ⟨h1, rfl⟩ | ⟨v, h1, rfl⟩ | ⟨v, h1, rfl⟩ <;> simp [stepG, unwind, doReturn, mdF, mkF, hf, hres, h1])

def dfR (u : Option D) : Rc := match u with | some d => .avail d | none => .nil

theorem mc_dfn {f : FuncId} {fn : Func} {c : Code} {args : List D} {h : List O} {u : Option D} {r : Abs.X × St} {rc : Out × List O} (hf : P.funcs[f]? = some fn) (hb : bodyOf fn = some c) (hres : fn.results.isEmpty = true)
    (hE : ME P f c { t := Zbi fn args, d := [], r := dfR u, h := h } r) (ho : dfnOut r = some rc) : MC P (.dfn f u) args h rc := by
  refine ⟨⟨fn, hf, by rw [hb]; simp⟩, fun w G vs cl cs hrel hmd => ?_⟩
  have hl := hrel.P.len
  have hrel' : RelSt w G [] [] (vs ++ []) (args ++ []) (hSt h) := by simpa using hrel
  obtain ⟨a1, a2⟩ := hrel'.enter hl (fn.ntmps - vs.length) (dfR u)
  have hen : Zbi fn args = args ++ List.replicate (fn.ntmps - vs.length) Zav := by simp [Zbi, hl]
  rw [hen] at hE
  have hrc : RcOK w G ⟨f, .deferred, none⟩ (cl :: cs) (dfR u) := by
    cases u with
    | none => exact ⟨rfl, rfl, cl, cs, rfl, hmd⟩
    | some d => obtain ⟨v, h1, h2, h3⟩ := hmd; exact ⟨rfl, rfl, cl, cs, v, rfl, h1, h2, h3⟩
  obtain ⟨w', G', tm', df', cs', q1, q2, q3⟩ := hE.code (F := ⟨f, .deferred, none⟩) (k := []) (cs := cl :: cs) rfl ⟨a1, hrc, fun b => Nat.zero_le 1⟩
  rw [enter_mkF hf hb]
  obtain ⟨rX, rs⟩ := r
  -- where it ends
  have hend : rs.d = [] ∧ (rX = .nrm ∨ rX = .ret) ∧ ((rs.r = .took ∧ rc = (.rcv Zav, rs.h)) ∨ (rs.r ≠ .took ∧ rc = (.val Zav, rs.h))) := by
    unfold dfnOut at ho
    simp only at ho
    split at ho
    · rename_i hd
      refine ⟨hd, .inl rfl, ?_⟩
      split at ho <;> simp_all
    · rename_i hd
      refine ⟨hd, .inr rfl, ?_⟩
      split at ho <;> simp_all
    · simp at ho
  obtain ⟨hd, hX, hrc2⟩ := hend
  have hst : ∃ k2, Steps P (lone (mkF ⟨f, .deferred, none⟩ (vs ++ List.replicate (fn.ntmps - vs.length) undef) [] [.code c]) (cl :: cs) w) (lone (mdF ⟨f, .deferred, none⟩ tm' df' k2 .returning) cs' w') := by
    rcases hX with rfl | rfl
    · exact ⟨[], Steps.trans q1 (.one (go_end rfl))⟩
    · obtain ⟨k2, q1⟩ := q1
      exact ⟨_, Steps.trans q1 (.one (go_ret rfl))⟩
  obtain ⟨k2, hst⟩ := hst
  have hrs : rs = { t := rs.t, d := [], r := rs.r, h := rs.h } := by cases rs; simp_all
  have hrel2 := q2.rel
  rw [hrs] at hrel2
  obtain ⟨w2, G2, md2, b1, b2, b3, b4⟩ := mu_nil (P := P) (u := none) (h := rs.h) ⟨f, .deferred, none⟩ w' G' tm' df' k2 cs' rs.t rs.r .returning hrel2 q2.mks rfl
  have hmd2 : md2 = .returning := b4
  subst hmd2
  obtain ⟨e1, e2⟩ := b2.bare
  have hcs : ∃ cl2, cs' = cl2 :: cs ∧ ∃ c', ((cl2.mode = .returning ∧ c' = cl2) ∨ (∃ v, cl2.mode = .panicking [{ v := v, recovered := false }] ∧ c' = cl2) ∨ ∃ v, cl2.mode = .panicking [{ v := v, recovered := true }] ∧ c' = { cl2 with mode := .returning }) ∧
      (((∃ d, rc.1 = .val d) ∧ c' = cl) ∨ ((∃ d, rc.1 = .rcv d) ∧ u ≠ none ∧ c' = { cl with mode := .returning })) := by
    rcases q3.cs with ⟨h1, h2⟩ | ⟨d, c0, t0, v, h1, h2, h3, h4, h5⟩
    · refine ⟨cl, h2, cl, ?_, .inl ⟨?_, rfl⟩⟩
      · cases u with
        | none => exact .inl ⟨hmd, rfl⟩
        | some d => obtain ⟨v, m1, _⟩ := hmd; exact .inr (.inl ⟨v, m1, rfl⟩)
      · rcases hrc2 with ⟨h3, _⟩ | ⟨h3, rfl⟩
        · rw [h3] at h1; cases u <;> cases h1
        · exact ⟨_, rfl⟩
    · cases h3
      refine ⟨_, h5, { cl with mode := .returning }, .inr (.inr ⟨v, rfl, rfl⟩), .inr ⟨?_, ?_, rfl⟩⟩
      · rcases hrc2 with ⟨_, rfl⟩ | ⟨h3, _⟩
        · exact ⟨_, rfl⟩
        · exact absurd h2 h3
      · cases u with
        | none => cases h1
        | some d => simp
  obtain ⟨cl2, rfl, c', hc1, hc2⟩ := hcs
  refine ⟨w2, G2, c', hst.trans (b1.trans (.one (step_return_deferred hf hres hc1))), ?_, ?_, hc2⟩
  · rcases hrc2 with ⟨_, rfl⟩ | ⟨_, rfl⟩ <;> exact e1
  · have x1 : Ext w G (fun b => cntS w G (vs ++ List.replicate (fn.ntmps - vs.length) undef) [] [] { t := args ++ List.replicate (fn.ntmps - vs.length) Zav, d := [], r := dfR u, h := h } b + cM [] b) w' G' (fun b => cntS w' G' tm' [] [] { t := rs.t, d := [], r := rs.r, h := rs.h } b + cM df' b) := by
      have := q3.ext
      simp only at this
      rw [hrs] at this
      exact this
    have x2 := x1.trans b3
    have : rc.2 = rs.h := by rcases hrc2 with ⟨_, rfl⟩ | ⟨_, rfl⟩ <;> rfl
    rw [this]
    refine x2.weaken (fun b => ?_) (fun b hb => ?_)
    · have := a2 b; simp only [List.append_nil, cM, sumZ] at *; omega
    · have y1 := x2.cnt b hb; have y2 := e2 b; have := a2 b
      simp only [List.append_nil, cM, sumZ] at *; omega

end

end Go.Abs
