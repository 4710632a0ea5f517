/-
  THE OPERATIONS, ONE BY ONE: composite literals, make, least and greatest, panics, deferred calls. THE OPERATIONS, ONE BY ONE: slices built and made, least and greatest, panics. A CALL's FRAME: what a caller's state says beside the callee's, and behind it. THE MACHINE's SINGLE STEPS, for a frame that may be a round's. No condition.
-/
import Derived.Test.YtkimilghfbgjmaaQ07
import Derived.Calls

open List renaming getElem?_append_left → Ya7, getElem?_append_right → Ya8, replicate → Yae
namespace Go.Abs
section
variable {P : Program} {w : World} {G : Gh} {tm : List Value} {df : List Deferred} {pv : List Value} {pd : List D} {s : St}
theorem RelL.left {vs us : List Value} {ds cs : List D} (hl : vs.length = ds.length) (h : RelL w G (vs ++ us) (ds ++ cs)) : RelL w G vs ds :=
  ⟨hl, fun i v d hi hd => h.rel i v d (by rw [Ya7 (List.getElem?_eq_some_iff.1 hi).1]; exact hi) (by rw [Ya7 (List.getElem?_eq_some_iff.1 hd).1]; exact hd),
   fun i v d hi hd => h.leaf i v d (by rw [Ya7 (List.getElem?_eq_some_iff.1 hi).1]; exact hi) (by rw [Ya7 (List.getElem?_eq_some_iff.1 hd).1]; exact hd)⟩
theorem RelL.right {vs us : List Value} {ds cs : List D} (hl : vs.length = ds.length) (h : RelL w G (vs ++ us) (ds ++ cs)) : RelL w G us cs := by
  refine ⟨by have := h.len; simp at this; omega, fun i v d hi hd => h.rel (vs.length + i) v d ?_ ?_, fun i v d hi hd => h.leaf (vs.length + i) v d ?_ ?_⟩
  all_goals first
    | (rw [Ya8 (by omega)]; simpa using hi)
    | (rw [Ya8 (by omega)]; rw [show vs.length + i - ds.length = i by omega]; exact hd)
theorem RelSt.rot {vs : List Value} {ds : List D} {v : Value} {d : D} (hl : vs.length = ds.length) (h : RelSt w G tm df (vs ++ v :: pv) (ds ++ d :: pd) s) :
    RelSt w G tm df (v :: (vs ++ pv)) (d :: (ds ++ pd)) s ∧ ∀ b, cntS w G tm (v :: (vs ++ pv)) (d :: (ds ++ pd)) s b = cntS w G tm (vs ++ v :: pv) (ds ++ d :: pd) s b := by
  have h1 := h.P.left hl
  have h2 := h.P.right hl
  have e : ∀ b, sumZ (tokT b) (v :: (vs ++ pv)) (d :: (ds ++ pd)) = sumZ (tokT b) (vs ++ v :: pv) (ds ++ d :: pd) := by
    intro b
    rw [Zgo _ _ _ _ _ hl]
    simp only [sumZ]
    rw [Zgo _ _ _ _ _ hl]; omega
  refine ⟨{ L := h.L, P := (h1.append h2.tail).cons h2.head.1 h2.head.2, len := h.len, nd := h.nd, obS := h.obS, H := h.H, S := h.S, dfr := h.dfr, one := ?_, noob := ?_ }, ?_⟩
  · intro b; rw [e]; exact h.one b
  · intro b hb; rw [e]; exact h.noob b hb
  · intro b; simp only [cntS, e]
theorem Zuo : ∀ (xs : List Operand) {s : St} {pv : List Value} {pd : List D} {ds : List D} {s1 : St}, RelSt w G tm df pv pd s → tks s xs = some (ds, s1) →
    RelSt w G tm df (xs.map (ev tm) ++ pv) (ds ++ pd) s1 ∧ xs.length = ds.length ∧ (∀ b, cntS w G tm (xs.map (ev tm) ++ pv) (ds ++ pd) s1 b = cntS w G tm pv pd s b) ∧ s1.h = s.h ∧ s1.d = s.d ∧ s1.r = s.r
  | [], s, pv, pd, ds, s1, h, hx => by
    simp [tks] at hx
    obtain ⟨rfl, rfl⟩ := hx
    exact ⟨h, rfl, fun _ => rfl, rfl, rfl, rfl⟩
  | x :: xs, s, pv, pd, ds, s1, h, hx => by
    simp only [tks] at hx
    split at hx
    · rename_i d0 s2 h1
      split at hx
      · rename_i ds2 s3 h2
        simp at hx
        obtain ⟨rfl, rfl⟩ := hx
        obtain ⟨k1, k2, k3, k4, k5⟩ := Zs2 h h1
        obtain ⟨m1, m2, m3, m4, m5, m6⟩ := Zuo xs k1 h2
        obtain ⟨n1, n2⟩ := m1.rot (by simpa using m2)
        exact ⟨n1, by simp [m2], fun b => (n2 b).trans ((m3 b).trans (k2 b)), m4.trans k3, m5.trans k4, m6.trans k5⟩
      · simp at hx
    · simp at hx
theorem Zp9 (off : Nat) : ∀ (vs : List Value) (k : Nat) (cells : Array Value), off + k + vs.length ≤ cells.size →
    ((vs.zipIdx k).foldl (fun cs (x : Value × Nat) => cs.setIfInBounds (off + x.2) x.1) cells).toList = Ziy cells.toList (off + k) vs
  | [], k, cells, h => by simp [Ziy]
  | v :: vs, k, cells, h => by
    simp only [List.zipIdx_cons, List.foldl_cons]
    simp only [List.length_cons] at h
    rw [Zp9 off vs (k + 1) _ (by simp; omega)]
    rw [show (cells.setIfInBounds (off + k) v).toList = cells.toList.set (off + k) v from by simp]
    have hz : cells.toList.length = cells.size := by simp
    apply List.ext_getElem?; intro i
    rw [Zfd _ _ _ (by simp; omega), Zfd _ _ _ (by simp; omega)]
    simp only [List.length_cons]
    by_cases h1 : i < off + k
    · rw [if_pos (by omega), if_pos h1, List.getElem?_set_ne (by omega)]
    · rw [if_neg h1]
      by_cases h2 : i = off + k
      · subst h2
        rw [if_pos (by omega), if_pos (by omega), List.getElem?_set_self (by omega)]
        simp
      · rw [if_neg (by omega)]
        by_cases h3 : i < off + (k + 1) + vs.length
        · rw [if_pos h3, if_pos (by omega), show i - (off + k) = (i - (off + (k + 1))) + 1 by omega]; simp
        · rw [if_neg h3, if_neg (by omega), List.getElem?_set_ne (by omega)]
theorem RelSt.merge {cells cells' : Array Value} {cs : List D} {v : Value} {d : D} {off : Nat} (h : RelSt w G tm df (.agg cells :: v :: pv) (.agg cs :: d :: pd) s) (hn : notTup d = true)
    (ho : off + (cellsOf d).length ≤ cs.length) (hc : cells'.toList = Ziy cells.toList off v.cells.toList) :
    RelSt w G tm df (.agg cells' :: pv) (.agg (Zfg cs off (cellsOf d)) :: pd) s ∧ ∀ b, cntS w G tm (.agg cells' :: pv) (.agg (Zfg cs off (cellsOf d)) :: pd) s b ≤ cntS w G tm (.agg cells :: v :: pv) (.agg cs :: d :: pd) s b := by
  obtain ⟨ra, la⟩ := h.P.head
  obtain ⟨rd', ld⟩ := h.P.tail.head
  cases ra with
  | agg _ _ a1 a2 a3 =>
  rw [Zdu rfl] at la
  have hla : ∀ (i : Nat) v d, cells[i]? = some v → cs[i]? = some d → Leaf0 w G.S v d := la
  obtain ⟨c1, c2⟩ := Zkp rd' hn
  have c3 := Zo2 rd' ld hn
  have c4 := Zo1 rd' hn
  have hcl : cells.toList.length = cs.length := by simpa using a1
  have hvl : v.cells.toList.length = (cellsOf d).length := by simpa using c1
  have hpt : ∀ (i : Nat) u e, cells'[i]? = some u → (Zfg cs off (cellsOf d))[i]? = some e → RelD w G u e ∧ Leaf0 w G.S u e := by
    intro i u e hu he
    have hu' : cells'.toList[i]? = some u := by simpa using hu
    rw [hc, Zfd _ _ _ (by omega), hvl] at hu'
    rw [Zg2, Zfd _ _ _ ho] at he
    split at hu'
    · rename_i hk; rw [if_pos hk] at he
      exact ⟨a3 i u e (by simpa using hu') he, hla i u e (by simpa using hu') he⟩
    · rename_i hk; rw [if_neg hk] at he
      split at hu'
      · rename_i hk2; rw [if_pos hk2] at he
        exact c3 _ u e (by simpa using hu') he
      · rename_i hk2; rw [if_neg hk2] at he
        exact ⟨a3 i u e (by simpa using hu') he, hla i u e (by simpa using hu') he⟩
  have hsz : cells'.size = (Zfg cs off (cellsOf d)).length := by
    rw [Zg2, Zgl _ _ _ ho]
    have := congrArg List.length hc
    rw [Zgl _ _ _ (by omega)] at this
    simp at this hcl; omega
  have htok : ∀ b, tokT b (.agg cells') (.agg (Zfg cs off (cellsOf d))) ≤ tokT b (.agg cells) (.agg cs) + tokT b v d := by
    intro b
    simp only [tokT, tokA]
    have := Zou (tok b) cells.toList v.cells.toList cs (cellsOf d) off (Nat.le_of_eq hcl.symm) hvl ho
    rw [← hc, ← Zg2, c4] at this
    simp only [tokT, tokA] at this ⊢
    omega
  have hone : ∀ u ∈ cells'.toList, u.oneCell' = true := by
    intro u hu
    rw [hc] at hu
    simp only [Ziy, List.mem_append] at hu
    rcases hu with (hu | hu) | hu
    · exact a2 u (List.mem_of_mem_take hu)
    · exact c2 u hu
    · exact a2 u (List.mem_of_mem_drop hu)
  refine ⟨{ L := h.L, P := h.P.tail.tail.cons (.agg _ _ hsz hone (fun i u e hu he => (hpt i u e hu he).1)) (by rw [Zdu rfl]; exact fun i u e hu he => (hpt i u e hu he).2), len := h.len, nd := h.nd, obS := h.obS, H := h.H, S := h.S, dfr := h.dfr, one := ?_, noob := ?_ }, ?_⟩
  · intro b; have := h.one b; have := htok b; simp only [sumZ] at *; omega
  · intro b hb; have := h.noob b hb; have := htok b; simp only [sumZ] at *; omega
  · intro b; have := htok b; simp only [cntS, sumZ] at *; omega
theorem Zw1 {place placeD : Nat → Option (Nat × Nat)} (hp : ∀ i p, placeD i = some p → place i = some p) : ∀ (is : List Nat) (vs : List Value) (ds : List D) (cells : Array Value) (cs cs' : List D),
    vs.length = ds.length → is.length = ds.length → RelSt w G tm df (.agg cells :: (vs ++ pv)) (.agg cs :: (ds ++ pd)) s → Zkt placeD cs (is.zip ds) = some cs' →
    ∃ cells', Instr.fill place cells (is.zip vs) = some cells' ∧ RelSt w G tm df (.agg cells' :: pv) (.agg cs' :: pd) s ∧ ∀ b, cntS w G tm (.agg cells' :: pv) (.agg cs' :: pd) s b ≤ cntS w G tm (.agg cells :: (vs ++ pv)) (.agg cs :: (ds ++ pd)) s b
  | [], vs, ds, cells, cs, cs', h1, h2, h, hf => by
    have : ds = [] := by simpa using h2.symm
    subst this
    have : vs = [] := by simpa using h1
    subst this
    simp [Zkt] at hf; subst hf
    exact ⟨cells, rfl, h, fun _ => Nat.le_refl _⟩
  | i :: is, [], ds, _, _, _, h1, h2, _, _ => by simp at h1 h2; omega
  | i :: is, v :: vs, [], _, _, _, h1, _, _, _ => by simp at h1
  | i :: is, v :: vs, d :: ds, cells, cs, cs', h1, h2, h, hf => by
    simp only [List.zip_cons_cons, Zkt] at hf
    split at hf
    · rename_i off size hpl
      split at hf
      · rename_i hc
        obtain ⟨c1, c2, c3⟩ := hc
        have kr := h.P.tail.head.1
        obtain ⟨q1, q2⟩ := Zkp kr c3
        have hcs : cells.size = cs.length := by
          have := h.P.head.1
          cases this with | agg _ _ a1 _ _ => exact a1
        obtain ⟨m1, m2⟩ := h.merge (off := off) (cells' := (v.cells.zipIdx).foldl (fun cs (x : Value × Nat) => cs.setIfInBounds (off + x.2) x.1) cells) c3 (by omega) (by
          have := Zp9 off v.cells.toList 0 cells (by simp; omega)
          rw [Nat.add_zero] at this
          rw [← this, ← Array.foldl_toList]
          simp)
        obtain ⟨cells', f1, f2, f3⟩ := Zw1 hp is vs ds _ _ cs' (by simpa using h1) (by simpa using h2) m1 hf
        refine ⟨cells', ?_, f2, fun b => Nat.le_trans (f3 b) (m2 b)⟩
        simp only [List.zip_cons_cons, Instr.fill, hp i _ hpl]
        have hc0 : ¬ ((v.cells.size ≠ size || decide (off + v.cells.size > cells.size)) = true) := by simp; omega
        rw [if_neg hc0]
        exact f1
      · simp at hf
    · simp at hf
theorem Zmp (f : Operand → Value) : ∀ (ps : List (Nat × Operand)), (ps.map (·.1)).zip ((ps.map (·.2)).map f) = ps.map fun x => (x.1, f x.2)
  | [] => rfl
  | p :: ps => by simp only [List.map_cons, List.zip_cons_cons]; rw [Zmp f ps]
def Zv9 (fs : Array Field) : Sem (Array (Nat × Nat)) := fs.mapM fun (f : Field) => do pure (f.offset, ← sizeOf f.type)
theorem Zsb {fs : Array Field} (h : fs.toList.all (fun (f : Field) => (szOf P f.type).isSome) = true) (w : World) :
    ∃ pl : Array (Nat × Nat), (Zv9 fs).run P w = .ok pl w ∧ ∀ (i : Nat) (p : Nat × Nat), ((fs[i]?).bind fun (f : Field) => (szOf P f.type).map fun n => (f.offset, n)) = some p → pl[i]? = some p := by
  have aux : ∀ (l : List Field), (l.all fun (f : Field) => (szOf P f.type).isSome) = true → ∃ pl : List (Nat × Nat), (l.mapM fun (f : Field) => (do pure (f.offset, ← sizeOf f.type) : Sem (Nat × Nat))).run P w = .ok pl w ∧
      ∀ (i : Nat) (p : Nat × Nat), ((l[i]?).bind fun (f : Field) => (szOf P f.type).map fun n => (f.offset, n)) = some p → pl[i]? = some p := by
    intro l
    induction l with
    | nil => intro _; exact ⟨[], by simp, fun i p h => by simp at h⟩
    | cons f l ih =>
      intro h
      simp only [List.all_cons, Bool.and_eq_true] at h
      obtain ⟨h1, h2⟩ := h
      obtain ⟨n, hn⟩ := Option.isSome_iff_exists.1 h1
      obtain ⟨pl, k1, k2⟩ := ih h2
      refine ⟨(f.offset, n) :: pl, ?_, fun i p hi => ?_⟩
      · simp only [List.mapM_cons, Sem.run_bind, Zhe hn, Result.andThen_ok, Sem.run_pure]
        rw [k1]; rfl
      · cases i with
        | zero => simp [hn] at hi; subst hi; rfl
        | succ i => exact k2 i p (by simpa using hi)
  obtain ⟨pl, k1, k2⟩ := aux fs.toList h
  refine ⟨pl.toArray, ?_, fun i p hi => by
    have := k2 i p (by simpa using hi)
    simpa using this⟩
  unfold Zv9
  rw [Array.mapM_eq_mapM_toList]
  simp only [Sem.run_map, k1, Result.andThen_ok]
theorem Ztk {t : TypeId} {z : List D} (hz : Zhb P t = some (.agg z)) (w : World) : ∃ vs : Array Value, (zeroValue t).run P w = .ok (.agg vs) w ∧ ∀ (w : World) (G : Gh), RelD w G (.agg vs) (.agg z) ∧ ∀ b, tokT b (.agg vs) (.agg z) = 0 := by
  obtain ⟨zv, z1, z2⟩ := Zjh hz w
  have := (Zjp (w := w) (G := ⟨[], fun _ _ => False⟩) z2).1
  obtain ⟨vs, rfl, _⟩ := Zly this
  exact ⟨vs, z1, fun w G => Zjp z2⟩
theorem op_build (h : RelSt w G tm df pv pd s) {rest : List Oper} {o : Oper} {t : TypeId} {ps : Array (Nat × Operand)} (ho : o.op = .build t ps) {d : D} {s1 : St} (hx : exOp P rest o s = some (.val d, s1)) : Ziv P w G tm df pv pd s o d s1 := by
  simp only [exOp, ho] at hx
  split at hx
  · rename_i ds s2 h1
    obtain ⟨d', hb, he⟩ := Option.map_eq_some_iff.1 hx
    simp only [Prod.mk.injEq, Out.val.injEq] at he
    obtain ⟨rfl, rfl⟩ := he
    obtain ⟨k1, k2, k3, k4, k5, k6⟩ := Zuo _ h h1
    have hparts : (ps.map fun (x : Nat × Operand) => (x.1, ev tm x.2)).toList = (ps.toList.map (·.1)).zip ((ps.toList.map (·.2)).map (ev tm)) := by
      rw [Zmp]; simp
    have fin : ∀ {z cs' : List D} {vs cells' : Array Value} {w1 : World}, RelSt w G tm df (.agg cells' :: pv) (.agg cs' :: pd) s2 →
        (∀ b, cntS w G tm (.agg cells' :: pv) (.agg cs' :: pd) s2 b ≤ cntS w G tm pv pd s b) → (execOp (ev tm) o).run P w = .ok (.value (.agg cells')) w → Ziv P w G tm df pv pd s o (.agg cs') s2 :=
      fun a b c => ⟨w, G, _, _, c, .inl rfl, a, (Ext.refl w G _).weaken (fun _ => Nat.le_refl _) (fun x _ => b x), k5, k6⟩
    unfold Zm7 at hb
    split at hb
    · rename_i z fs hz hu
      split at hb
      · rename_i hall
        obtain ⟨cs', hf, rfl⟩ := Option.map_eq_some_iff.1 hb
        obtain ⟨vs, z1, z2⟩ := Ztk hz w
        obtain ⟨r1, r2⟩ := z2 w G
        obtain ⟨pl, p1, p2⟩ := Zsb hall w
        obtain ⟨cells', f1, f2, f3⟩ := Zw1 (place := (pl[·]?)) p2 _ _ ds vs z cs' (by simpa using k2) (by simpa using k2) (k1.dup r1 r2) hf
        refine fin (z := z) (vs := vs) (w1 := w) f2 (fun b => Nat.le_trans (f3 b) ?_) ?_
        · have := k3 b; have := r2 b; simp only [cntS, sumZ] at *; omega
        · simp only [execOp, ho, Instr.build, Sem.run_bind, z1, Result.andThen_ok, run_underlying hu, Value.cells]
          unfold Zv9 at p1
          rw [p1]
          simp only [Result.andThen_ok]
          rw [show (ps.map fun (x : Nat × Operand) => (x.1, ev tm x.2)).toList = _ from hparts, f1]
          rfl
      · simp at hb
    · rename_i z n e hz hu
      split at hb
      · rename_i sz hsz
        obtain ⟨cs', hf, rfl⟩ := Option.map_eq_some_iff.1 hb
        obtain ⟨vs, z1, z2⟩ := Ztk hz w
        obtain ⟨r1, r2⟩ := z2 w G
        obtain ⟨cells', f1, f2, f3⟩ := Zw1 (place := fun i => some (i * sz, sz)) (fun _ _ h => h) _ _ ds vs z cs' (by simpa using k2) (by simpa using k2) (k1.dup r1 r2) hf
        refine fin (z := z) (vs := vs) (w1 := w) f2 (fun b => Nat.le_trans (f3 b) ?_) ?_
        · have := k3 b; have := r2 b; simp only [cntS, sumZ] at *; omega
        · simp only [execOp, ho, Instr.build, Sem.run_bind, z1, Result.andThen_ok, run_underlying hu, Value.cells, Zhe hsz]
          rw [show (ps.map fun (x : Nat × Operand) => (x.1, ev tm x.2)).toList = _ from hparts, f1]
          rfl
      · simp at hb
    · simp at hb
  · simp at hx
end
end Go.Abs
namespace Go.Abs
section
variable {P : Program} {w : World} {G : Gh} {tm : List Value} {df : List Deferred} {pv : List Value} {pd : List D} {s : St}
structure Plain (w : World) (G : Gh) (cells : Array Value) (cs : List D) : Prop where
  len : cells.size = cs.length
  one : ∀ v ∈ cells.toList, v.oneCell' = true
  rel : ∀ (i : Nat) v d, cells[i]? = some v → cs[i]? = some d → RelD w G v d ∧ own0 d = false
theorem Zsm {v : Value} {d : D} (h : RelD w G v d) (ho : ownD d = false) (hn : notTup d = true) : Plain w G v.cells (cellsOf d) := by
  obtain ⟨c1, c2⟩ := Zkp h hn
  refine ⟨c1, c2, fun i u e hu he => ?_⟩
  refine ⟨(Zo2 h (Zga (fun b => Zhc h ho)) hn i u e hu he).1, ?_⟩
  cases hf : flat d with
  | true =>
    have e2 : cellsOf d = [d] := by cases d <;> simp_all [flat, cellsOf]
    rw [e2] at he
    cases i with
    | zero => simp at he; subst he; cases d <;> simp_all [flat, ownD, ownA]
    | succ i => simp at he
  | false =>
    cases d <;> simp [flat] at hf
    · rename_i ds
      have : ∀ x ∈ ds, own0 x = false := by simpa [ownD, ownA] using ho
      exact this e (List.mem_of_getElem? he)
    · simp [notTup] at hn
theorem Zua {place placeD : Nat → Option (Nat × Nat)} (hp : ∀ i p, placeD i = some p → place i = some p) : ∀ (is : List Nat) (vs : List Value) (ds : List D) (cells : Array Value) (cs cs' : List D),
    vs.length = ds.length → is.length = ds.length → (∀ (i : Nat) v d, vs[i]? = some v → ds[i]? = some d → RelD w G v d ∧ ownD d = false) → Plain w G cells cs → Zkt placeD cs (is.zip ds) = some cs' →
    ∃ cells', Instr.fill place cells (is.zip vs) = some cells' ∧ Plain w G cells' cs'
  | [], vs, ds, cells, cs, cs', h1, h2, _, h, hf => by
    have : ds = [] := by simpa using h2.symm
    subst this
    have : vs = [] := by simpa using h1
    subst this
    simp [Zkt] at hf; subst hf
    exact ⟨cells, rfl, h⟩
  | i :: is, [], ds, _, _, _, h1, h2, _, _, _ => by simp at h1 h2; omega
  | i :: is, v :: vs, [], _, _, _, h1, _, _, _, _ => by simp at h1
  | i :: is, v :: vs, d :: ds, cells, cs, cs', h1, h2, hv, h, hf => by
    simp only [List.zip_cons_cons, Zkt] at hf
    split at hf
    · rename_i off size hpl
      split at hf
      · rename_i hc
        obtain ⟨c1, c2, c3⟩ := hc
        obtain ⟨k1, k2⟩ := hv 0 v d rfl rfl
        have hpl2 := Zsm k1 k2 c3
        have hl := h.len
        have hl2 := hpl2.len
        let cells1 := (v.cells.zipIdx).foldl (fun cs (x : Value × Nat) => cs.setIfInBounds (off + x.2) x.1) cells
        have hc1 : cells1.toList = Ziy cells.toList off v.cells.toList := by
          have := Zp9 off v.cells.toList 0 cells (by simp; omega)
          rw [Nat.add_zero] at this
          rw [← this]
          simp only [cells1]
          rw [← Array.foldl_toList]
          simp
        have hs1 : cells1.size = cs.length := by
          have := congrArg List.length hc1
          rw [Zgl _ _ _ (by simp; omega)] at this
          simp at this; omega
        have hp1 : Plain w G cells1 (Zfg cs off (cellsOf d)) := by
          refine ⟨by rw [Zg2, Zgl _ _ _ (by omega)]; exact hs1, fun u hu => ?_, fun k u e hu he => ?_⟩
          · rw [hc1] at hu
            simp only [Ziy, List.mem_append] at hu
            rcases hu with (hu | hu) | hu
            · exact h.one u (List.mem_of_mem_take hu)
            · exact hpl2.one u hu
            · exact h.one u (List.mem_of_mem_drop hu)
          · have hu' : cells1.toList[k]? = some u := by simpa using hu
            rw [hc1, Zfd _ _ _ (by simp; omega)] at hu'
            rw [Zg2, Zfd _ _ _ (by omega)] at he
            have hll : v.cells.toList.length = (cellsOf d).length := by simpa using hl2
            rw [hll] at hu'
            split at hu'
            · rename_i hk; rw [if_pos hk] at he
              exact h.rel k u e (by simpa using hu') he
            · rename_i hk; rw [if_neg hk] at he
              split at hu'
              · rename_i hk2; rw [if_pos hk2] at he
                exact hpl2.rel _ u e (by simpa using hu') he
              · rename_i hk2; rw [if_neg hk2] at he
                exact h.rel k u e (by simpa using hu') he
        obtain ⟨cells', f1, f2⟩ := Zua hp is vs ds cells1 _ cs' (by simpa using h1) (by simpa using h2) (fun i v d a b => hv (i + 1) v d (by simpa using a) (by simpa using b)) hp1 hf
        refine ⟨cells', ?_, f2⟩
        simp only [List.zip_cons_cons, Instr.fill, hp i _ hpl]
        have hc0 : ¬ ((v.cells.size ≠ size || decide (off + v.cells.size > cells.size)) = true) := by simp; omega
        rw [if_neg hc0]
        exact f1
      · simp at hf
    · simp at hf
theorem Zpv {z : List D} {sz : Nat} (hz : z.length = sz) (h0 : 0 < sz) : ∀ (n : Nat), (Zoj z n).length = n * sz ∧ ∀ k, k < n * sz → (Zoj z n)[k]? = z[k % sz]?
  | 0 => by simp [Zoj]
  | n + 1 => by
    obtain ⟨h1, h2⟩ := Zpv hz h0 n
    refine ⟨by simp [Zoj, h1, hz, Nat.succ_mul]; omega, fun k hk => ?_⟩
    simp only [Zoj]
    by_cases hlt : k < sz
    · rw [Ya7 (by omega), Nat.mod_eq_of_lt hlt]
    · rw [Ya8 (by omega), hz, h2 (k - sz) (by rw [Nat.succ_mul] at hk; omega)]
      congr 1
      exact (Nat.mod_eq_sub_mod (by omega)).symm
theorem Zrx {zv : Value} {z : D} {sz n : Nat} (hz : ofV zv = some z) (hl : (cellsOf z).length = sz) (h0 : 0 < sz) (hn : notTup z = true) :
    Plain w G ((Array.range (n * sz)).map (zv.cells[· % zv.cells.size]!)) (Zoj (cellsOf z) n) := by
  have hs : zv.cells.size = sz := (Zq7 hz).trans hl
  obtain ⟨r1, r2⟩ := Zjp (w := w) (G := G) hz
  have hp := Zsm r1 (ofV_own hz) hn
  obtain ⟨q1, q2⟩ := Zpv hl h0 n
  refine ⟨by simp [q1], fun v hv => ?_, fun i v d hv hd => ?_⟩
  · simp only [Array.toList_map, List.mem_map] at hv
    obtain ⟨k, _, rfl⟩ := hv
    have : k % zv.cells.size < zv.cells.size := Nat.mod_lt _ (by omega)
    rw [getElem!_pos zv.cells _ this]
    exact hp.one _ (by simp)
  · have hi : i < n * sz := by rw [← q1]; exact (List.getElem?_eq_some_iff.1 hd).1
    rw [q2 i hi] at hd
    have : i % zv.cells.size < zv.cells.size := Nat.mod_lt _ (by omega)
    have hv' : v = zv.cells[i % zv.cells.size]! := by
      simp [hi] at hv; exact hv.symm
    rw [getElem!_pos zv.cells _ this] at hv'
    subst hv'
    exact hp.rel (i % sz) _ d (by rw [← hs]; exact Array.getElem?_eq_getElem this) hd
theorem toE_rel {v : Value} {d : D} {x : E} (h : RelD w G v d) (ho : own0 d = false) (hx : toE d = some x) : RelE w G.S v x := by
  unfold toE at hx
  split at hx
  · simp at hx; subst hx; exact Zg8 h
  · rename_i ex fu sz es
    simp at hx; subst hx
    simp [own0] at ho
    cases h with
    | oslN _ _ _ => exact .nilsl
    | osl b o n cap _ _ _ _ hn hc hfu h0 hsz hs =>
      subst hn
      rcases h0 with h0 | ⟨rfl, h0⟩
      · exact RelE.of_rows hc h0 hsz (hs ho.1)
      · exact RelE.of_rows (sz := 1) (es := []) (by simp) (by omega) (by simp) (by simp)
  · simp at hx; subst hx
    cases h with
    | iface t v d h => exact .iface _ _ _ (Zg8 h)
  · simp at hx
theorem Zum : ∀ (ds : List D) (xs : List E), toEs ds = some xs → ds.length = xs.length ∧ ∀ (i : Nat) (x : E), xs[i]? = some x → ∃ d, ds[i]? = some d ∧ toE d = some x
  | [], xs, h => by simp [toEs] at h; subst h; exact ⟨rfl, fun i x hi => by simp at hi⟩
  | d :: ds, xs, h => by
    simp only [toEs] at h
    split at h
    · rename_i x xs' h1 h2
      simp at h; subst h
      obtain ⟨k1, k2⟩ := Zum ds xs' h2
      refine ⟨by simp [k1], fun i y hi => ?_⟩
      cases i with
      | zero => simp at hi; subst hi; exact ⟨d, rfl, h1⟩
      | succ i => simpa using k2 i y (by simpa using hi)
    · simp at h
theorem Ztv {sz : Nat} : ∀ (n : Nat) (cs : List D) (es : List (List E)), n * sz ≤ cs.length → Zoy (Zpd sz n cs) = some es →
    es.length = n ∧ (∀ r ∈ es, r.length = sz) ∧ ∀ (i : Nat) (r : List E) (j : Nat) (x : E), es[i]? = some r → r[j]? = some x → ∃ d, cs[i * sz + j]? = some d ∧ toE d = some x
  | 0, cs, es, _, h => by simp [Zpd, Zoy] at h; subst h; exact ⟨rfl, by simp, fun i r j x hi => by simp at hi⟩
  | n + 1, cs, es, hn, h => by
    simp only [Zpd, Zoy] at h
    split at h
    · rename_i r rs h1 h2
      simp at h; subst h
      rw [Nat.succ_mul] at hn
      obtain ⟨k1, k2⟩ := Zum _ _ h1
      obtain ⟨q1, q2, q3⟩ := Ztv n (cs.drop sz) rs (by simp; omega) h2
      have hr : r.length = sz := by rw [← k1]; simp; omega
      refine ⟨by simp [q1], fun r' hr' => ?_, fun i r' j x hi hj => ?_⟩
      · rcases List.mem_cons.1 hr' with rfl | h'
        · exact hr
        · exact q2 r' h'
      · cases i with
        | zero =>
          simp at hi; subst hi
          obtain ⟨d, a, b⟩ := k2 j x hj
          rw [List.getElem?_take] at a
          split at a
          · exact ⟨d, by simpa using a, b⟩
          · simp at a
        | succ i =>
          obtain ⟨d, a, b⟩ := q3 i r' j x (by simpa using hi) hj
          refine ⟨d, ?_, b⟩
          rw [List.getElem?_drop] at a
          rw [← a, Nat.succ_mul]; congr 1; omega
    · simp at h
theorem Zyz {cells : Array Value} {cs : List D} {sz n : Nat} {es : List (List E)} (h : Plain w G cells cs) (hl : n * sz ≤ cs.length) (he : Zoy (Zpd sz n cs) = some es) : es.length = n ∧ (∀ r ∈ es, r.length = sz) ∧ Znd w G.S cells.toList sz es := by
  obtain ⟨q1, q2, q3⟩ := Ztv n cs es hl he
  refine ⟨q1, q2, fun i r j x hi hj => ?_⟩
  obtain ⟨d, a, b⟩ := q3 i r j x hi hj
  have hlt : i * sz + j < cells.size := by rw [h.len]; exact (List.getElem?_eq_some_iff.1 a).1
  obtain ⟨k1, k2⟩ := h.rel _ _ d (Array.getElem?_eq_getElem hlt) a
  exact ⟨_, by simp [hlt], toE_rel k1 k2 b⟩
theorem Zxi {place : Nat → Option (Nat × Nat)} : ∀ (ps : List (Nat × D)) (cs cs' : List D), Zkt place cs ps = some cs' → cs'.length = cs.length
  | [], cs, cs', h => by simp [Zkt] at h; subst h; rfl
  | (i, d) :: ps, cs, cs', h => by
    simp only [Zkt] at h
    split at h
    · split at h
      · rename_i off size _ hc
        rw [Zxi ps _ cs' h, Zg2, Zgl _ _ _ (by omega)]
      · simp at h
    · simp at h
theorem RelSt.newRow' (h : RelSt w G tm df pv pd s) {cells : Array Value} {cs : List D} {sz n cap : Nat} {es : List (List E)} {e : TypeId} {fu : Bool} (hp : Plain w G cells cs) (h0 : 0 < sz) (hl : n * sz ≤ cs.length) (he : Zoy (Zpd sz n cs) = some es)
    (hc : n ≤ cap) (hfu : fu = true → cap = n) (hcap : cap * sz ≤ cells.size) :
    RelSt (w.alloc (.cells cells e)) G tm df (.slice (some ⟨w.heap.size, 0, none⟩) n cap :: pv) (.osl true fu sz es :: pd) s ∧
      Ext w G (cntS w G tm pv pd s) (w.alloc (.cells cells e)) G (cntS (w.alloc (.cells cells e)) G tm (.slice (some ⟨w.heap.size, 0, none⟩) n cap :: pv) (.osl true fu sz es :: pd) s) := by
  obtain ⟨q1, q2, q3⟩ := Zyz hp hl he
  have hblk : (w.alloc (.cells cells e)).heap[w.heap.size]? = some (.cells cells e (0, 0)) := by rw [Zha, if_pos rfl]
  exact h.fresh (by simp) (fun b hb => Zfw _ _ hb) hblk (fun j hj => by simp only [World.frozen?, hblk]; simp) q1.symm hc hfu h0 q2 hcap q3 ⟨rfl, rfl⟩
theorem Zud {t e : TypeId} (h : Zw3 P t = some e) : P.underlying t = some (.slice e) := by
  unfold Zw3 at h; split at h
  · simp at h; subst h; assumption
  · simp at h
theorem Zok {t : TypeId} {z : List D} (h : Zf3 P t = some z) : ∃ d, Zhb P t = some d ∧ cellsOf d = z ∧ notTup d = true := by
  unfold Zf3 at h
  obtain ⟨d, h1, h2⟩ := Option.bind_eq_some_iff.1 h
  split at h2
  · rename_i hn
    simp at h2; exact ⟨d, h1, h2, hn⟩
  · simp at h2
theorem Zvh (h : RelSt w G tm df pv pd s) {rest : List Oper} {o : Oper} {t : TypeId} {n : Nat} {ps : Array (Nat × Operand)} (ho : o.op = .buildSlice t n ps) {d : D} {s1 : St} (hx : exOp P rest o s = some (.val d, s1)) : Ziv P w G tm df pv pd s o d s1 := by
  simp only [exOp, ho] at hx
  split at hx
  · rename_i ds s2 h1
    obtain ⟨d', hb, he⟩ := Option.map_eq_some_iff.1 hx
    simp only [Prod.mk.injEq, Out.val.injEq] at he
    obtain ⟨rfl, rfl⟩ := he
    obtain ⟨G2, m1, m2, m3, m4, m5, _, m6⟩ := Zs6 _ h h1
    have hparts : (ps.map fun (x : Nat × Operand) => (x.1, ev tm x.2)).toList = (ps.toList.map (·.1)).zip ((ps.toList.map (·.2)).map (ev tm)) := by
      rw [Zmp]; simp
    unfold Zef at hb
    split at hb
    · rename_i e hel
      have hu := Zud hel
      split at hb
      · rename_i sz z hsz hz
        split at hb
        · rename_i hc
          obtain ⟨c1, c2, c3⟩ := hc
          split at hb
          · rename_i cs hf
            obtain ⟨es, hes, rfl⟩ := Option.map_eq_some_iff.1 hb
            obtain ⟨z0, hz0, rfl, hnt⟩ := Zok hz
            obtain ⟨zv, z1, z2⟩ := Zjh hz0 w
            have hs : zv.cells.size = sz := (Zq7 z2).trans c1
            have hp0 := Zrx (w := w) (G := G2) (n := n) z2 c1 c2 hnt
            obtain ⟨cells', f1, f2⟩ := Zua (place := fun i => some (i * sz, sz)) (fun _ _ h => h) (ps.toList.map (·.1)) ((ps.toList.map (·.2)).map (ev tm)) ds _ _ cs (by simpa using m5) (by simpa using m5) (fun i v d hv hd => by
              rw [List.getElem?_map] at hv
              cases hx' : (ps.toList.map (·.2))[i]? with
              | none => rw [hx'] at hv; simp at hv
              | some x => rw [hx'] at hv; simp at hv; subst hv; exact m6 i x d hx' hd) hp0 hf
            have hcl : cs.length = n * sz := by rw [Zxi _ _ _ hf, (Zpv c1 c2 n).1]
            obtain ⟨r1, r2⟩ := m1.newRow' (e := e) (fu := true) f2 c2 (by omega) hes (Nat.le_refl n) (fun _ => rfl) (by rw [f2.len, hcl]; exact Nat.le_refl _)
            refine ⟨_, G2, _, _, ?_, .inl rfl, r1, m2.trans r2, m3, m4⟩
            have hbig : ¬ (n * sz > 2 ^ 24) := by omega
            have hparts' : (ps.map fun x => match x with | (i, x) => (i, ev tm x)).toList = (ps.toList.map (·.1)).zip ((ps.toList.map (·.2)).map (ev tm)) := hparts
            simp only [execOp, ho, Instr.buildSlice, Sem.run_bind, run_underlying hu, Result.andThen_ok, Zhe hsz]
            rw [if_neg hbig]
            by_cases hz' : n * sz = 0
            · have : n = 0 := by
                rcases Nat.mul_eq_zero.1 hz' with h' | h'
                · exact h'
                · omega
              subst this
              have e0 : ∀ (z : Array Value), (Array.range (0 * sz)).map (fun k => z[k % z.size]!) = #[] := fun z => by simp
              rw [e0] at f1
              simp only [hz', if_true, Sem.run_bind, Sem.run_pure, Result.andThen_ok]
              rw [show (Array.range 0).map (fun k => (#[] : Array Value)[k % (#[] : Array Value).size]!) = #[] from by simp]
              rw [hparts', f1]
              simp [newRow]
            · rw [if_neg hz']
              simp only [Sem.run_bind, z1, Sem.run_pure, Result.andThen_ok]
              rw [hparts', f1]
              simp [newRow]
          · simp at hb
        · simp at hb
      · simp at hb
    · simp at hb
  · simp at hx
theorem run_asInt' {k : IntKind} {n : Int} (w : World) : (asInt (.int k n)).run P w = .ok n w := rfl
theorem Zwy (h : RelSt w G tm df pv pd s) {rest : List Oper} {o : Oper} {t : TypeId} {x y : Operand} (ho : o.op = .makeSlice t x y) {d : D} {s1 : St} (hx : exOp P rest o s = some (.val d, s1)) : Ziv P w G tm df pv pd s o d s1 := by
  simp only [exOp, ho] at hx
  split at hx
  · rename_i l c h1 h2
    obtain ⟨d', hb, he⟩ := Option.map_eq_some_iff.1 hx
    simp only [Prod.mk.injEq, Out.val.injEq] at he
    obtain ⟨rfl, rfl⟩ := he
    have r1 := Zh1 h h1
    have r2 := Zh1 h h2
    unfold Zu3 at hb
    split at hb
    · rename_i e k1 l k2 c hel
      have hu := Zud hel
      split at hb
      · rename_i sz by_ z hsz hby hz
        split at hb
        · rename_i hc
          obtain ⟨c1, c2, c3, c4, c5, c6⟩ := hc
          split at hb
          · rename_i r hr
            simp at hb; subst hb
            obtain ⟨z0, hz0, rfl, hnt⟩ := Zok hz
            obtain ⟨zv, z1, z2⟩ := Zjh hz0 w
            obtain ⟨ti, t1, t2⟩ := Zox hby w
            have hs : zv.cells.size = sz := (Zq7 z2).trans c1
            have hp0 := Zrx (w := w) (G := G) (n := c.toNat) z2 c1 c2 hnt
            obtain ⟨q1, q2⟩ := Zum _ _ hr
            obtain ⟨p1, p2⟩ := Zpv c1 c2 c.toNat
            have hlc : l.toNat ≤ c.toNat := by omega
            have hblk : (w.alloc (.cells ((Array.range (c.toNat * sz)).map (zv.cells[· % zv.cells.size]!)) e)).heap[w.heap.size]? = some (.cells ((Array.range (c.toNat * sz)).map (zv.cells[· % zv.cells.size]!)) e (0, 0)) := by rw [Zha, if_pos rfl]
            have hh : Znd w G.S ((Array.range (c.toNat * sz)).map (zv.cells[· % zv.cells.size]!)).toList sz (Yae l.toNat r) := by
              intro i r' j x' hi hj
              rw [List.getElem?_replicate] at hi
              split at hi
              · rename_i hil
                simp at hi; subst hi
                obtain ⟨d, a, b⟩ := q2 j x' hj
                have hjs : j < sz := by rw [← c1]; exact (List.getElem?_eq_some_iff.1 a).1
                have hlt : i * sz + j < c.toNat * sz := Zqr (by omega) hjs
                have hm : (i * sz + j) % sz = j := by rw [Nat.mul_comm, Nat.mul_add_mod]; exact Nat.mod_eq_of_lt hjs
                have hlt' : i * sz + j < ((Array.range (c.toNat * sz)).map (zv.cells[· % zv.cells.size]!)).size := by simpa using hlt
                obtain ⟨a1, a2⟩ := hp0.rel (i * sz + j) _ d (Array.getElem?_eq_getElem hlt') (by rw [p2 _ hlt, hm]; exact a)
                exact ⟨_, by rw [Array.getElem?_toList]; exact Array.getElem?_eq_getElem hlt', toE_rel a1 a2 b⟩
              · simp at hi
            obtain ⟨r3, r4⟩ := h.fresh (w' := w.alloc (.cells ((Array.range (c.toNat * sz)).map (zv.cells[· % zv.cells.size]!)) e)) (n := l.toNat) (cap := c.toNat) (sz := sz) (es := Yae l.toNat r) (fu := decide (l = c)) (by simp) (fun b hb => Zfw _ _ hb) hblk
              (fun j hj => by simp only [World.frozen?, hblk]; simp) (by simp) hlc (fun hf => by simp at hf; omega) c2 (fun r' hr' => by rw [(List.mem_replicate.1 hr').2, ← q1]; exact c1) (by simp) hh ⟨rfl, rfl⟩
            refine ⟨_, G, _, _, ?_, .inl rfl, r3, r4, rfl, rfl⟩
            have e1 : ev tm x = .int k1 l := Zgb r1
            have e2 : ev tm y = .int k2 c := Zgb r2
            have w1 : IntKind.i64.wrap l = l := by rw [IntKind.wrap_i64]; omega
            have w2 : IntKind.i64.wrap c = c := by rw [IntKind.wrap_i64]; omega
            have hbc : (by_ : Int) * c ≤ 2 ^ 48 := by
              have : (by_ : Int) * c ≤ 16384 * 4294967296 := Int.mul_le_mul (by omega) (by omega) (by omega) (by omega)
              omega
            simp only [execOp, ho, Instr.makeSlice, Sem.run_bind, run_underlying hu, Result.andThen_ok, e1, e2, run_asInt', t1, t2, w1, w2]
            have hbig : (((decide (c < 0) || decide ((by_ : Int) * c > 2 ^ 48)) || decide (l < 0) || decide (l > c)) = true) = False := by
              simp; omega
            simp only [hbig, if_false, Sem.run_bind, run_askRoom, Result.andThen_ok, Zhe hsz]
            by_cases hz' : c.toNat * sz = 0
            · have e0 : ∀ (z : Array Value), (Array.range (c.toNat * sz)).map (fun k => z[k % z.size]!) = #[] := fun z => by rw [hz']; simp
              simp only [hz', if_true, Sem.run_pure]
              simp [newRow, show Array.range 0 = #[] from rfl]
            · rw [if_neg hz']
              simp only [Sem.run_bind, z1, Sem.run_pure, Result.andThen_ok]
              simp [newRow]
          · simp at hb
        · simp at hb
      · simp at hb
    · simp at hb
  · simp at hx
end
end Go.Abs
namespace Go.Abs
section
variable {P : Program} {w w' : World} {G G' : Gh} {tm : List Value} {df : List Deferred} {pv : List Value} {pd : List D} {s : St}
theorem RelL.split {vs us : List Value} {ds cs : List D} (h : RelL w G (vs ++ us) (ds ++ cs)) (hl : vs.length = ds.length) : RelL w G vs ds ∧ RelL w G us cs := by
  have h0 := h.len
  simp only [List.length_append] at h0
  refine ⟨⟨hl, fun i v d hi hd => h.rel i v d ?_ ?_, fun i v d hi hd => h.leaf i v d ?_ ?_⟩, ⟨by omega, fun i v d hi hd => h.rel (vs.length + i) v d ?_ ?_, fun i v d hi hd => h.leaf (vs.length + i) v d ?_ ?_⟩⟩
  · rw [Ya7 (List.getElem?_eq_some_iff.1 hi).1]; exact hi
  · rw [Ya7 (List.getElem?_eq_some_iff.1 hd).1]; exact hd
  · rw [Ya7 (List.getElem?_eq_some_iff.1 hi).1]; exact hi
  · rw [Ya7 (List.getElem?_eq_some_iff.1 hd).1]; exact hd
  · rw [Ya8 (by omega)]; simpa using hi
  · rw [Ya8 (by omega), show vs.length + i - ds.length = i from by omega]; exact hd
  · rw [Ya8 (by omega)]; simpa using hi
  · rw [Ya8 (by omega), show vs.length + i - ds.length = i from by omega]; exact hd
theorem Ztq (b : Nat) : ∀ n, sumZ (tokT b) (Yae n undef) (Yae n Zaw) = 0
  | 0 => rfl
  | n + 1 => by simp only [List.replicate_succ, sumZ, Zep, Ztq b n]
theorem Ztw (w : World) (G : Gh) : ∀ n, RelL w G (Yae n undef) (Yae n Zaw)
  | 0 => .nil w G
  | n + 1 => by
    simp only [List.replicate_succ]
    exact (Ztw w G n).cons (Zi6 w G) (Zga Zep)
theorem RelSt.enter {vs : List Value} {ds : List D} (h : RelSt w G tm df (vs ++ pv) (ds ++ pd) s) (hl : vs.length = ds.length) (n : Nat) (r : Rc) :
    RelSt w G (vs ++ Yae n undef) [] [] [] { t := ds ++ Yae n Zaw, d := [], r := r, h := s.h } ∧
      ∀ b, cntS w G (vs ++ Yae n undef) [] [] { t := ds ++ Yae n Zaw, d := [], r := r, h := s.h } b + sumZ (tokT b) tm s.t + sumZ (tokT b) pv pd = cntS w G tm (vs ++ pv) (ds ++ pd) s b := by
  have hs : ∀ b, sumZ (tokT b) (vs ++ Yae n undef) (ds ++ Yae n Zaw) = sumZ (tokT b) vs ds := fun b => by rw [Zgo _ _ _ _ _ hl, Ztq]; omega
  have hp : ∀ b, sumZ (tokT b) (vs ++ pv) (ds ++ pd) = sumZ (tokT b) vs ds + sumZ (tokT b) pv pd := fun b => Zgo _ _ _ _ _ hl
  refine ⟨{ L := (h.P.split hl).1.append (Ztw w G n), P := .nil w G, len := h.len, nd := h.nd, obS := h.obS, H := h.H, S := h.S, one := ?_, noob := ?_, dfr := .nil }, ?_⟩
  · intro b; have := h.one b; simp only [hs, hp, sumZ] at *; omega
  · intro b hb; have := h.noob b hb; simp only [hs, hp, sumZ] at *; omega
  · intro b; simp only [cntS, hs, hp, sumZ]; omega
theorem RelSt.back {vs : List Value} {ds : List D} (h : RelSt w G tm df (vs ++ pv) (ds ++ pd) s) (hl : vs.length = ds.length) {tm2 : List Value} {df2 : List Deferred} {pv2 : List Value} {pd2 : List D} {s2 : St} {c c' : Nat → Nat}
    (k : RelSt w' G' tm2 df2 pv2 pd2 s2) (e : Ext w G c w' G' c') (hc : ∀ b, c b + sumZ (tokT b) tm s.t + sumZ (tokT b) pv pd ≤ cntS w G tm (vs ++ pv) (ds ++ pd) s b)
    (hc' : ∀ b, sumZ (tokT b) pv2 pd2 + hsum w' b G'.ob s2.h ≤ c' b) :
    RelSt w' G' tm df (pv2 ++ pv) (pd2 ++ pd) { s with h := s2.h } ∧
      Ext w G (cntS w G tm (vs ++ pv) (ds ++ pd) s) w' G' (cntS w' G' tm (pv2 ++ pv) (pd2 ++ pd) { s with h := s2.h }) := by
  have hl2 := k.P.len
  have hp : ∀ b, sumZ (tokT b) (pv2 ++ pv) (pd2 ++ pd) = sumZ (tokT b) pv2 pd2 + sumZ (tokT b) pv pd := fun b => Zgo _ _ _ _ _ hl2
  have hP := (h.P.split hl).2
  have hone : ∀ b, cntS w G tm (vs ++ pv) (ds ++ pd) s b ≤ 1 := fun b => h.one b
  have hno : ∀ b ∈ G.ob, cntS w G tm (vs ++ pv) (ds ++ pd) s b = 0 := fun b hb => h.noob b hb
  have keepB : ∀ b, 0 < sumZ (tokT b) tm s.t + sumZ (tokT b) pv pd → b < w.heap.size ∧ w'.heap[b]? = w.heap[b]? ∧ ∀ j, G'.S b j → G.S b j := by
    intro b hb
    have h1 := hone b; have h2 := hc b
    have hlt : b < w.heap.size := by
      rcases Nat.lt_or_ge 0 (sumZ (tokT b) tm s.t) with h' | h'
      · exact (h.L.tok_lt h').1
      · exact (hP.tok_lt (b := b) (by omega)).1
    have hob : b ∉ G.ob := fun hb' => by have := hno b hb'; omega
    exact ⟨hlt, e.same b hlt (by omega) hob, e.Ssame b hlt (by omega) hob⟩
  have fresh0 : ∀ b, w.heap.size ≤ b → sumZ (tokT b) tm s.t = 0 ∧ sumZ (tokT b) pv pd = 0 := by
    intro b hb
    constructor
    · rcases Nat.lt_or_ge 0 (sumZ (tokT b) tm s.t) with h' | h'
      · have := (h.L.tok_lt h').1; omega
      · omega
    · rcases Nat.lt_or_ge 0 (sumZ (tokT b) pv pd) with h' | h'
      · have := (hP.tok_lt h').1; omega
      · omega
  have k1 : ∀ b, sumZ (tokT b) pv2 pd2 + hsum w' b G'.ob s2.h ≤ 1 := fun b => by have := k.one b; omega
  have k0 : ∀ b ∈ G'.ob, sumZ (tokT b) pv2 pd2 + hsum w' b G'.ob s2.h = 0 := fun b hb => by have := k.noob b hb; omega
  refine ⟨{ L := ?_, P := ?_, len := k.len, nd := k.nd, obS := k.obS, H := k.H, S := k.S, one := ?_, noob := ?_, dfr := ?_ }, e.later, e.size, fun b hb => (e.obnew b hb).imp id (fun x => x.imp id (fun y => by have := hc b; omega)), ?_, ?_, ?_, e.wo⟩
  · exact h.L.keep e.later (fun b hb => (keepB b (by omega)).2)
  · exact k.P.append (hP.keep e.later (fun b hb => (keepB b (by omega)).2))
  · intro b
    simp only [hp]
    rcases Nat.lt_or_ge b w.heap.size with hlt | hge
    · have a1 := e.cnt b hlt; have a2 := hc b; have a3 := hc' b; have a4 := hone b; omega
    · have := fresh0 b hge; have := k1 b; omega
  · intro b hb
    simp only [hp]
    have := k0 b hb
    rcases e.obnew b hb with h' | h' | h'
    · have a1 := hno b h'; have a2 := hc b; omega
    · have := fresh0 b h'; omega
    · have a1 := hone b; have a2 := hc b; omega
  · exact h.dfr.keep e.later (fun b h1 h2 => by
      have hlt := Zik h1
      have h0 : cntS w G tm (vs ++ pv) (ds ++ pd) s b = 0 := by
        rcases Nat.lt_or_ge 0 (cntS w G tm (vs ++ pv) (ds ++ pd) s b) with h' | h'
        · obtain ⟨_, _, _, _, h3⟩ := h.cnt_lt h'
          rw [h1] at h3; simp at h3
        · omega
      have := hc b
      refine ⟨e.same b hlt (by omega) h2, fun hb => ?_⟩
      rcases e.obnew b hb with h' | h' | h'
      · exact h2 h'
      · omega
      · omega)
  · intro b hlt h0 ho j
    have := hc b
    exact e.Ssame b hlt (by omega) ho j
  · intro b hlt h0 ho
    have := hc b
    exact e.same b hlt (by omega) ho
  · intro b hlt
    have a1 := e.cnt b hlt; have a2 := hc b; have a3 := hc' b
    simp only [cntS, hp]; simp only [cntS] at a2; omega
end
end Go.Abs
namespace Go.Abs
structure Fr where
  fn : FuncId
  kind : CallKind
  ro : Option Nat
def mkF (F : Fr) (tm : List Value) (df : List Deferred) (todo : List Item) : Frame :=
  { fn := F.fn, tmps := tm.toArray, todo := todo, defers := df, mode := .run, kind := F.kind, roundOf := F.ro }
theorem Zru (F : Fr) (tm : List Value) (df : List Deferred) (todo : List Item) : (mkF F tm df todo).eval = ev tm := by
  funext x; cases x <;> simp [Frame.eval, mkF, ev, Array.getD_eq_getD_getElem?]
section
variable {P : Program} {F : Fr} {tm : List Value} {df : List Deferred} {k : List Item} {cs : List Frame} {w : World}
theorem go_skip : step P (lone (mkF F tm df (.code .skip :: k)) cs w) = .next (lone (mkF F tm df k) cs w) :=
  step_lone_go (by simp [stepG, stepG.exec, mkF])
theorem go_label {l : Nat} : step P (lone (mkF F tm df (.code (.label l) :: k)) cs w) = .next (lone (mkF F tm df k) cs w) :=
  step_lone_go (by simp [stepG, stepG.exec, mkF])
theorem go_inBlock {id : Nat} : step P (lone (mkF F tm df (.inBlock id :: k)) cs w) = .next (lone (mkF F tm df k) cs w) :=
  step_lone_go (by simp [stepG, stepG.exec, mkF])
theorem go_inScope {c : Code} : step P (lone (mkF F tm df (.inScope c :: k)) cs w) = .next (lone (mkF F tm df k) cs w) :=
  step_lone_go (by simp [stepG, stepG.exec, mkF])
theorem go_seq {x y : Code} : step P (lone (mkF F tm df (.code (.seq x y) :: k)) cs w) = .next (lone (mkF F tm df (.code x :: .code y :: k)) cs w) :=
  step_lone_go (by simp [stepG, stepG.exec, mkF])
theorem go_cond {c : Operand} {x y : Code} {t : Bool} (h : ev tm c = .bool t) :
    step P (lone (mkF F tm df (.code (.cond c x y) :: k)) cs w) = .next (lone (mkF F tm df (.code (if t then x else y) :: k)) cs w) :=
  step_lone_go (by
    have := congrFun (Zru F tm df (.code (.cond c x y) :: k)) c
    simp only [mkF] at this
    simp [stepG, stepG.exec, mkF, this, h])
theorem Zoe {id : Nat} {c : Code} : step P (lone (mkF F tm df (.code (.block id c) :: k)) cs w) = .next (lone (mkF F tm df (.code c :: .inBlock id :: k)) cs w) :=
  step_lone_go (by simp [stepG, stepG.exec, mkF])
theorem go_loop {c : Code} : step P (lone (mkF F tm df (.code (.loop c) :: k)) cs w) = .next (lone (mkF F tm df (.code c :: .inLoop c :: k)) cs w) :=
  step_lone_go (by simp [stepG, stepG.exec, mkF])
theorem go_inLoop {c : Code} : step P (lone (mkF F tm df (.inLoop c :: k)) cs w) = .next (lone (mkF F tm df (.code c :: .inLoop c :: k)) cs w) :=
  step_lone_go (by simp [stepG, stepG.exec, mkF])
theorem go_scope {c : Code} : step P (lone (mkF F tm df (.code (.scope c) :: k)) cs w) = .next (lone (mkF F tm df (.code c :: .inScope c :: k)) cs w) :=
  step_lone_go (by simp [stepG, stepG.exec, mkF])
theorem go_exit {id : Nat} {k' : List Item} (h : exitTo id k = some k') : step P (lone (mkF F tm df (.code (.exit id) :: k)) cs w) = .next (lone (mkF F tm df k') cs w) :=
  step_lone_go (by simp [stepG, stepG.exec, mkF, h])
theorem go_goto {l : Nat} {k' : List Item} (h : gotoIn l k = some k') : step P (lone (mkF F tm df (.code (.goto l) :: k)) cs w) = .next (lone (mkF F tm df k') cs w) :=
  step_lone_go (by simp [stepG, stepG.exec, mkF, h])
theorem go_ret (hr : F.ro = none) : step P (lone (mkF F tm df (.code .ret :: k)) cs w) = .next (lone { mkF F tm df (.code .ret :: k) with mode := .returning } cs w) :=
  step_lone_go (by simp [stepG, stepG.exec, mkF, hr])
theorem go_end (hr : F.ro = none) : step P (lone (mkF F tm df []) cs w) = .next (lone { mkF F tm df [] with mode := .returning } cs w) :=
  step_lone_go (by simp [stepG, stepG.exec, mkF, hr])
theorem go_region {id : Nat} {ops : Array Oper} : step P (lone (mkF F tm df (.code (.region id ops false) :: k)) cs w) = .next (lone (mkF F tm df (.inRegion ops (List.range ops.size) :: k)) cs w) :=
  step_lone_go (by simp [stepG, stepG.exec, mkF])
theorem go_inRegion {ops : Array Oper} : step P (lone (mkF F tm df (.inRegion ops [] :: k)) cs w) = .next (lone (mkF F tm df k) cs w) :=
  step_lone_go (by simp [stepG, stepG.exec, mkF])
def putV (tm : List Value) (dst : Option Tmp) (v : Value) : List Value :=
  match dst with
  | some t => tm.set t v
  | none => tm
theorem Zk5 {ops : Array Oper} {i : Nat} {is : List Nat} {o : Oper} (ho : ops[i]? = some o) (v : Value) :
    (mkF F tm df (.inRegion ops (i :: is) :: k)).finish v = mkF F (putV tm o.dst v) df (.inRegion ops is :: k) := by
  cases hd : o.dst <;> simp [Frame.finish, mkF, ho, hd, putV]
theorem go_unwanted {ops : Array Oper} {i : Nat} {is : List Nat} {o : Oper} (ho : ops[i]? = some o) (hw : Region.wanted o (yielded ops tm.toArray) = false) :
    step P (lone (mkF F tm df (.inRegion ops (i :: is) :: k)) cs w) = .next (lone (mkF F (putV tm o.dst undef) df (.inRegion ops is :: k)) cs w) :=
  step_lone_go (by
    have h := Zk5 (F := F) (tm := tm) (df := df) (k := k) (is := is) ho undef
    simp only [mkF] at h
    simp [stepG, stepG.exec, mkF, ho, hw, h])
theorem Zpf {ops : Array Oper} {i : Nat} {is : List Nat} {o : Oper} (ho : ops[i]? = some o) (hw : Region.wanted o (yielded ops tm.toArray) = true) (hd : F.ro = none ∨ ∀ c, o.op ≠ .defer c) :
    stepG P true { frame := mkF F tm df (.inRegion ops (i :: is) :: k), callers := cs, status := .running, dying := none } w =
      stepG.apply P true (mkF F tm df (.inRegion ops (i :: is) :: k)) cs none (execOp (ev tm) o) w := by
  have he := Zru F tm df (.inRegion ops (i :: is) :: k)
  have h1 : (mkF F tm df (.inRegion ops (i :: is) :: k)).oper? = some o := by simp [Frame.oper?, mkF, ho]
  have h2 : stepG P true { frame := mkF F tm df (.inRegion ops (i :: is) :: k), callers := cs, status := .running, dying := none } w =
      stepG.oper P true (mkF F tm df (.inRegion ops (i :: is) :: k)) cs none w := by
    simp [stepG, stepG.exec, mkF, ho, hw]
  rw [h2]
  simp only [stepG.oper, h1, he]
  split
  · rename_i l c hr hop
    rcases hd with hd | hd
    · simp [mkF, hd] at hr
    · exact absurd hop (hd _)
  · rfl
theorem go_oper {ops : Array Oper} {i : Nat} {is : List Nat} {o : Oper} (ho : ops[i]? = some o) (hw : Region.wanted o (yielded ops tm.toArray) = true)
    (hd : F.ro = none ∨ ∀ c, o.op ≠ .defer c) {nx : Next} {w' : World} (hr : (execOp (ev tm) o).run P w = .ok nx w') {v : Value} (hv : nx = .value v ∨ (nx = .skip ∧ v = undef)) :
    step P (lone (mkF F tm df (.inRegion ops (i :: is) :: k)) cs w) = .next (lone (mkF F (putV tm o.dst v) df (.inRegion ops is :: k)) cs w') :=
  step_lone_go (by
    rw [Zpf ho hw hd]
    have h := Zk5 (F := F) (tm := tm) (df := df) (k := k) (is := is) ho v
    rcases hv with rfl | ⟨rfl, rfl⟩ <;> simp [stepG.apply, hr, h])
theorem go_panic {ops : Array Oper} {i : Nat} {is : List Nat} {o : Oper} (ho : ops[i]? = some o) (hw : Region.wanted o (yielded ops tm.toArray) = true)
    (hd : F.ro = none ∨ ∀ c, o.op ≠ .defer c) {v : Value} {w' : World} (hr : (execOp (ev tm) o).run P w = .halt (.panic v) w') :
    step P (lone (mkF F tm df (.inRegion ops (i :: is) :: k)) cs w) = .next (lone { mkF F tm df (.inRegion ops (i :: is) :: k) with mode := .panicking [{ v := v, recovered := false }] } cs w') :=
  step_lone_go (by
    rw [Zpf ho hw hd]
    simp [stepG.apply, hr, Frame.raise, mkF])
theorem go_enter {ops : Array Oper} {i : Nat} {is : List Nat} {o : Oper} (ho : ops[i]? = some o) (hw : Region.wanted o (yielded ops tm.toArray) = true)
    (hd : F.ro = none ∨ ∀ c, o.op ≠ .defer c) {f : FuncId} {args : Array Value} {w' : World} (hr : (execOp (ev tm) o).run P w = .ok (.enter f args) w') :
    step P (lone (mkF F tm df (.inRegion ops (i :: is) :: k)) cs w) = .next (lone (Frame.enter P f args .normal) (mkF F tm df (.inRegion ops (i :: is) :: k) :: cs) w') :=
  step_lone_go (by
    rw [Zpf ho hw hd]
    simp [stepG.apply, hr, mkF])
theorem go_round {ops : Array Oper} {i : Nat} {is : List Nat} {o : Oper} (ho : ops[i]? = some o) (hw : Region.wanted o (yielded ops tm.toArray) = true)
    (hd : F.ro = none ∨ ∀ c, o.op ≠ .defer c) {l : Nat} {f : FuncId} {tmps : Array Value} {asg body : Code} {w' : World} (hr : (execOp (ev tm) o).run P w = .ok (.round l f tmps asg body) w') :
    step P (lone (mkF F tm df (.inRegion ops (i :: is) :: k)) cs w) = .next (lone (Frame.round l f tmps asg body .normal) (mkF F tm df (.inRegion ops (i :: is) :: k) :: cs) w') :=
  step_lone_go (by
    rw [Zpf ho hw hd]
    simp [stepG.apply, hr, mkF])
theorem go_defer {ops : Array Oper} {i : Nat} {is : List Nat} {o : Oper} (ho : ops[i]? = some o) (hw : Region.wanted o (yielded ops tm.toArray) = true)
    (hd : F.ro = none) {d : Deferred} {w' : World} (hr : (execOp (ev tm) o).run P w = .ok (.defer d) w') :
    step P (lone (mkF F tm df (.inRegion ops (i :: is) :: k)) cs w) = .next (lone (mkF F (putV tm o.dst undef) (d :: df) (.inRegion ops is :: k)) cs w') :=
  step_lone_go (by
    rw [Zpf ho hw (.inl hd)]
    have h := Zk5 (F := F) (tm := tm) (df := d :: df) (k := k) (is := is) ho undef
    simp only [mkF] at h
    simp [stepG.apply, hr, mkF, h])
theorem Zsy {ops : Array Oper} {i : Nat} {is : List Nat} {o : Oper} (ho : ops[i]? = some o) (hw : Region.wanted o (yielded ops tm.toArray) = true)
    (hd : F.ro = none) (hk : F.kind = .deferred) {c : Frame} {v : Value} (hc : c.mode = .panicking [{ v := v, recovered := false }]) {w' : World} (hr : (execOp (ev tm) o).run P w = .ok .recover w') :
    step P (lone (mkF F tm df (.inRegion ops (i :: is) :: k)) (c :: cs) w) = .next (lone (mkF F (putV tm o.dst v) df (.inRegion ops is :: k)) ({ c with mode := .panicking [{ v := v, recovered := true }] } :: cs) w') :=
  step_lone_go (by
    rw [Zpf ho hw (.inl hd)]
    have h := Zk5 (F := F) (tm := tm) (df := df) (k := k) (is := is) ho v
    have ht : tryRecover (mkF F tm df (.inRegion ops (i :: is) :: k)) (c :: cs) = some (v, { c with mode := .panicking [{ v := v, recovered := true }] } :: cs) := by
      simp [tryRecover, mkF, hk, hc]
    have hro : (mkF F tm df (.inRegion ops (i :: is) :: k)).roundOf = none := hd
    simp [stepG.apply, hr, ht, hro, h])
theorem Zoq {ops : Array Oper} {i : Nat} {is : List Nat} {o : Oper} (ho : ops[i]? = some o) (hw : Region.wanted o (yielded ops tm.toArray) = true)
    (hd : F.ro = none) (hk : F.kind = .deferred) {c : Frame} (hc : c.mode = .returning ∨ ∃ v, c.mode = .panicking [{ v := v, recovered := true }]) {w' : World} (hr : (execOp (ev tm) o).run P w = .ok .recover w') :
    step P (lone (mkF F tm df (.inRegion ops (i :: is) :: k)) (c :: cs) w) = .next (lone (mkF F (putV tm o.dst .nilIface) df (.inRegion ops is :: k)) (c :: cs) w') :=
  step_lone_go (by
    rw [Zpf ho hw (.inl hd)]
    have h := Zk5 (F := F) (tm := tm) (df := df) (k := k) (is := is) ho .nilIface
    have ht : tryRecover (mkF F tm df (.inRegion ops (i :: is) :: k)) (c :: cs) = none := by
      rcases hc with hc | ⟨v, hc⟩ <;> simp [tryRecover, mkF, hk, hc]
    have hro : (mkF F tm df (.inRegion ops (i :: is) :: k)).roundOf = none := hd
    simp [stepG.apply, hr, ht, hro, h])
end
end Go.Abs
