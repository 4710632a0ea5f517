/-
  THE OPERATIONS, ONE BY ONE: maps. THE OPERATIONS, ONE BY ONE: composite literals, make, least and greatest, panics, deferred calls. THE OPERATIONS, ONE BY ONE: slices built and made, least and greatest, panics. No condition.
-/
import Derived.Test.YtkimilghfbgjmaaP07

namespace Go.Abs

section
variable {P : Program} {w : World} {G : Gh} {tm : List Value} {df : List Deferred} {pv : List Value} {pd : List D} {s : St}

def setB (w : World) (b : Nat) (x : Obj) : World := { w with heap := w.heap.setIfInBounds b x }
theorem setB_same {b : Nat} {x : Obj} (h : b < w.heap.size) : (setB w b x).heap[b]? = some x := by simp [setB, h]
theorem setB_ne {b b' : Nat} {x : Obj} (h : b' ≠ b) : (setB w b x).heap[b']? = w.heap[b']? := by
  simp only [setB]; rw [Array.getElem?_setIfInBounds_ne (by omega)]
theorem setB_size {b : Nat} {x : Obj} : (setB w b x).heap.size = w.heap.size := by simp [setB]

def isCells : O → Bool
  | .cells _ => true
  | _ => false

/-- An object that is no row of cells turns into another such. -/
theorem RelSt.setObj (h : RelSt w G tm df pv pd s) {i b : Nat} {o o' : O} {x : Obj} (hi : s.h[i]? = some o) (hb : G.ob[i]? = some b) (ho : isCells o = false) (ho' : isCells o' = false) (hnd : o ≠ .dead)
    (hr : Later w G (setB w b x) G → RelO (setB w b x) G b o') :
    RelSt (setB w b x) G tm df pv pd { s with h := s.h.set i o' } ∧ Ext w G (cntS w G tm pv pd s) (setB w b x) G (cntS (setB w b x) G tm pv pd { s with h := s.h.set i o' }) := by
  have hob : b ∈ G.ob := List.mem_of_getElem? hb
  have hcell : ∀ b' j, G.S b' j → (setB w b x).cell? ⟨b', j, none⟩ = w.cell? ⟨b', j, none⟩ := by
    intro b' j hs
    have hne : b' ≠ b := fun e => by subst e; exact (h.obS i b' hb).2 (by rw [hi]; simpa using hnd) j hs
    simp only [World.cell?, setB_ne hne]
  have later : Later w G (setB w b x) G := ⟨fun _ _ h => h, fun _ _ h => h, hcell⟩
  have hno := h.noob b hob
  have keepB : ∀ b', 0 < cntS w G tm pv pd s b' → (setB w b x).heap[b']? = w.heap[b']? := fun b' hb' => setB_ne (fun e => by subst e; simp only [cntS] at hb'; omega)
  have hz : ∀ b' bi, Zfa w b' bi o = 0 := fun b' bi => by cases o <;> simp_all [isCells, Zfa]
  have hz' : ∀ (w : World) b' bi, Zfa w b' bi o' = 0 := fun w b' bi => by cases o' <;> simp_all [isCells, Zfa]
  have hh : ∀ b', hsum (setB w b x) b' G.ob (s.h.set i o') = hsum w b' G.ob s.h := by
    intro b'
    have e1 := hsum_set (w := w) b' G.ob s.h i b o' o hb hi
    rw [hz, hz' w] at e1
    have e2 : hsum (setB w b x) b' G.ob (s.h.set i o') = hsum w b' G.ob (s.h.set i o') := by
      refine Zi1 _ _ (fun j bj oj h1 h2 => ?_)
      by_cases e : i = j
      · subst e
        rw [List.getElem?_set] at h2; simp at h2
        obtain ⟨_, rfl⟩ := h2
        rw [hz', hz']
      · exact Zhb (setB_ne (fun e2 => e (nodup_inj h.nd hb (e2 ▸ h1))))
    omega
  refine ⟨{ L := ?_, P := ?_, len := by simp [h.len], nd := h.nd, obS := ?_, H := ?_, S := ?_, one := ?_, noob := ?_, dfr := ?_ }, later, by rw [setB_size]; exact Nat.le_refl _, fun b' hb' => .inl hb', fun _ _ _ _ _ hs => hs, fun b' _ _ hno' => setB_ne (fun e => hno' (e ▸ hob)), fun b' _ => ?_, rfl, rfl⟩
  · exact h.L.keep later (fun b' ht => ⟨keepB b' (by simp only [cntS]; omega), fun _ hs => hs⟩)
  · exact h.P.keep later (fun b' ht => ⟨keepB b' (by simp only [cntS]; omega), fun _ hs => hs⟩)
  · exact fun j b' hb' => ⟨by rw [setB_size]; exact (h.obS j b' hb').1, fun hd => by
      by_cases hij : i = j
      · subst hij; exact (h.obS i b' hb').2 (by rw [hi]; simpa using hnd)
      · exact (h.obS j b' hb').2 (by simp only at hd; rw [List.getElem?_set_ne hij] at hd; exact hd)⟩
  · intro j bj oj h1 h2
    simp only at h2
    by_cases e : i = j
    · subst e
      rw [List.getElem?_set] at h2; simp at h2
      obtain ⟨_, rfl⟩ := h2
      rw [hb] at h1; cases h1
      exact hr later
    · rw [List.getElem?_set_ne e] at h2
      exact (h.H j bj oj h1 h2).keep later (setB_ne (fun e2 => e (nodup_inj h.nd hb (e2 ▸ h1)))) (fun b' ht => ⟨keepB b' (by
        have := hsum_le (w := w) (i := j) b' G.ob s.h j h1 h2
        simp only [cntS]; omega), fun _ hs => hs⟩)
  · intro b' j hs; obtain ⟨u, hu⟩ := h.S b' j hs; exact ⟨u, (hcell b' j hs).trans hu⟩
  · intro b'; rw [hh]; exact h.one b'
  · intro b' hb'; rw [hh]; exact h.noob b' hb'
  · exact h.dfr.keep later (fun b' h1 h2 => ⟨setB_ne (fun e => h2 (e ▸ hob)), h2⟩)
  · simp only [cntS, hh]; exact Nat.le_refl _

/-! ### keys -/
theorem run_checkKey {kt : TypeId} {k : E} {v : Value} {e : Bool} (hk : keyOk P kt k = true) (n : Nat) : (Instr.checkKey e (n + 1) kt v).run P w = .ok () w := by
  unfold keyOk at hk
  split at hk <;> first | (simp at hk; done) | (rename_i hu; simp [Instr.checkKey, run_underlying hu])

theorem ba_eq {a b : ByteArray} (h : (a == b) = true) : a = b := by
  obtain ⟨x⟩ := a; obtain ⟨y⟩ := b
  have : (x == y) = true := h
  simp at this; rw [this]
theorem ba_refl (a : ByteArray) : (a == a) = true := by
  obtain ⟨x⟩ := a
  show (x == x) = true
  simp

def isKey : E → Bool
  | .bool _ | .int _ _ | .str _ => true
  | _ => false

theorem keyEq_now {kt : TypeId} {k k' : E} {v v' : Value} {u : TypeDesc} {b : Bool} (hk : keyOk P kt k = true) (hu : P.underlying kt = some u) (hv : RelE w G.S v k) (hv' : RelE w G.S v' k') (he : keyEq k k' = some b) :
    Instr.sameNow u v v' = some b ∧ (b = true → v = v') := by
  unfold keyOk at hk
  rw [hu] at hk
  unfold keyEq at he
  split at he
  · cases hv; cases hv'
    simp at he; subst he
    cases u <;> first | (simp at hk; done) | exact ⟨rfl, fun h => by simp at h; subst h; rfl⟩
  · split at he
    · rename_i hkk
      cases hv; cases hv'
      simp at he; subst he; subst hkk
      cases u <;> first | (simp at hk; done) | exact ⟨by simp [Instr.sameNow], fun h => by simp at h; subst h; rfl⟩
    · simp at he
  · cases hv; cases hv'
    simp at he; subst he
    cases u <;> first | (simp at hk; done) | exact ⟨rfl, fun h => by have := ba_eq h; subst this; rfl⟩
  · simp at he

/-- Entries, one by one. -/
def RelM (w : World) (G : Gh) : List MapEntry → List (E × D) → Prop
  | [], [] => True
  | m :: ms, (k, d) :: es => RelE w G.S m.key k ∧ RelD w G m.val d ∧ plainD d = true ∧ RelM w G ms es
  | _, _ => False

theorem relM_of : ∀ (ms : List MapEntry) (es : List (E × D)), ms.length = es.length → (∀ (i : Nat) (m : MapEntry) (k : E) (d : D), ms[i]? = some m → es[i]? = some (k, d) → RelE w G.S m.key k ∧ RelD w G m.val d ∧ plainD d = true) → RelM w G ms es
  | [], [], _, _ => trivial
  | [], _ :: _, h, _ => by simp at h
  | _ :: _, [], h, _ => by simp at h
  | m :: ms, (k, d) :: es, h, hh => by
    obtain ⟨a, b, c⟩ := hh 0 m k d rfl rfl
    exact ⟨a, b, c, relM_of ms es (by simpa using h) (fun i m k d h1 h2 => hh (i + 1) m k d (by simpa using h1) (by simpa using h2))⟩
theorem relM_to : ∀ (ms : List MapEntry) (es : List (E × D)), RelM w G ms es → ms.length = es.length ∧ ∀ (i : Nat) (m : MapEntry) (k : E) (d : D), ms[i]? = some m → es[i]? = some (k, d) → RelE w G.S m.key k ∧ RelD w G m.val d ∧ plainD d = true
  | [], [], _ => ⟨rfl, fun i m k d h => by simp at h⟩
  | [], _ :: _, h => h.elim
  | _ :: _, [], h => h.elim
  | m :: ms, (k, d) :: es, h => by
    obtain ⟨a, b, c, r⟩ := h
    obtain ⟨q1, q2⟩ := relM_to ms es r
    refine ⟨by simp [q1], fun i m' k' d' h1 h2 => ?_⟩
    cases i with
    | zero => simp at h1 h2; obtain ⟨rfl, rfl⟩ := h2; subst h1; exact ⟨a, b, c⟩
    | succ i => exact q2 i m' k' d' (by simpa using h1) (by simpa using h2)
theorem RelM.mono {w' : World} {G' : Gh} (k : Later w G w' G') : ∀ (ms : List MapEntry) (es : List (E × D)), RelM w G ms es → RelM w' G' ms es
  | [], [], _ => trivial
  | [], _ :: _, h => h.elim
  | _ :: _, [], h => h.elim
  | m :: ms, (_, _) :: es, h => ⟨h.1.mono k.S k.cell, h.2.1.mono k, h.2.2.1, RelM.mono k ms es h.2.2.2⟩

theorem find_rel {kt : TypeId} {k : E} {v : Value} {u : TypeDesc} (hk : keyOk P kt k = true) (hu : P.underlying kt = some u) (hv : RelE w G.S v k) :
    ∀ (ms : List MapEntry) (es : List (E × D)) (i : Nat) (r : Option D), RelM w G ms es → findD k es = some r →
      (r = none ∧ Instr.findNow u v ms i = some none) ∨ ∃ d j m, r = some d ∧ Instr.findNow u v ms i = some (some (i + j, m.val)) ∧ ms[j]? = some m ∧ RelD w G m.val d ∧ plainD d = true
  | [], [], i, r, _, h => by simp [findD] at h; subst h; exact .inl ⟨rfl, rfl⟩
  | [], _ :: _, _, _, h, _ => h.elim
  | _ :: _, [], _, _, h, _ => h.elim
  | m :: ms, (k', d) :: es, i, r, hm, h => by
    obtain ⟨a, b, c, rest⟩ := hm
    simp only [findD] at h
    split at h
    · rename_i he
      simp at h; subst h
      refine .inr ⟨d, 0, m, rfl, ?_, rfl, b, c⟩
      simp only [Instr.findNow, (keyEq_now hk hu hv a he).1, Nat.add_zero]
    · rename_i he
      rcases find_rel hk hu hv ms es (i + 1) r rest h with ⟨q1, q2⟩ | ⟨d', j, m', q1, q2, q3, q4, q5⟩
      · exact .inl ⟨q1, by simp only [Instr.findNow, (keyEq_now hk hu hv a he).1, q2]⟩
      · refine .inr ⟨d', j + 1, m', q1, ?_, by simpa using q3, q4, q5⟩
        simp only [Instr.findNow, (keyEq_now hk hu hv a he).1, q2]
        congr 3; omega
    · simp at h

theorem tok_plainD {v : Value} {d : D} (h : RelD w G v d) (hp : plainD d = true) : ∀ b, tokT b v d = 0 := by
  intro b
  cases d <;> simp [plainD] at hp <;> exact tok_flat0 rfl rfl h
theorem notTup_plainD {d : D} (hp : plainD d = true) : notTup d = true := by cases d <;> simp_all [plainD, notTup]

theorem mapEs_rel (h : RelSt w G tm df pv pd s) {v : Value} {m : D} {es : List (E × D)} (hm : RelD w G v m) (he : mapEs s.h m = some es) :
    (v = .map none ∧ es = []) ∨ ∃ i b ents clock, m = .map i ∧ v = .map (some b) ∧ G.ob[i]? = some b ∧ s.h[i]? = some (.map es) ∧ w.heap[b]? = some (.map ents clock) ∧ RelM w G ents.toList es := by
  unfold mapEs at he
  split at he
  · simp at he; subst he
    have := Zfk hm
    cases this; exact .inl ⟨rfl, rfl⟩
  · rename_i i
    split at he
    · rename_i es' hi
      simp at he; subst he
      cases hm with
      | map i b hb =>
        obtain ⟨ents, clock, q1, q2, q3⟩ := h.H i b _ hb hi
        exact .inr ⟨i, b, ents, clock, rfl, rfl, hb, hi, q1, relM_of _ _ (by simpa using q2) (fun i m k d h1 h2 => q3 i m k d (by simpa using h1) h2)⟩
    · simp at he
  · simp at he

theorem mapT_some {t kt et : TypeId} (h : mapT P t = some (kt, et)) : P.underlying t = some (.map kt et) := by
  unfold mapT at h; split at h
  · simp at h; obtain ⟨rfl, rfl⟩ := h; assumption
  · simp at h
theorem keyOk_und {kt : TypeId} {k : E} (hk : keyOk P kt k = true) : ∃ u, P.underlying kt = some u := by
  unfold keyOk at hk; split at hk <;> first | (simp at hk; done) | exact ⟨_, by assumption⟩

theorem tokA_plainD {v : Value} {d : D} (h : RelD w G v d) (hp : plainD d = true) (b : Nat) : tokA b v d = 0 := by
  rw [← Zgf (notTup_plainD hp)]; exact tok_plainD h hp b

theorem run_findKey {kt : TypeId} {u : TypeDesc} {v : Value} {l : List MapEntry} {r : Option (Nat × Value)} (hu : P.underlying kt = some u) (h : Instr.findNow u v l 0 = some r) (w : World) : (Instr.findKey kt v l).run P w = .ok r w := by
  simp [Instr.findKey, run_underlying hu, h]

theorem op_lookup (h : RelSt w G tm df pv pd s) {rest : List Oper} {o : Oper} {t : TypeId} {x y : Operand} {ok : Bool} (ho : o.op = .lookup t x y ok) {d : D} {s1 : St} (hx : exOp P rest o s = some (.val d, s1)) : Zi6 P w G tm df pv pd s o d s1 := by
  simp only [exOp, ho] at hx
  split at hx
  · rename_i kt et m k h1 h2 h3
    split at hx
    · rename_i hk
      have hu := mapT_some h1
      obtain ⟨u, hku⟩ := keyOk_und hk
      have rm := Zgg h h2
      have rk := Zfk (Zgg h h3)
      have hget : ∃ es, mapEs s.h m = some es ∧ mapGet s.h m k = findD k es := by
        unfold mapGet at hx ⊢
        cases hm : mapEs s.h m with
        | none => rw [hm] at hx; simp at hx
        | some es => exact ⟨es, rfl, rfl⟩
      obtain ⟨es, he1, he2⟩ := hget
      rw [he2] at hx
      -- the entries
      have hes : ∃ ents : Array MapEntry, RelM w G ents.toList es ∧ ∀ (v : Value) (r : Option (Nat × Value)), Instr.findNow u (ev tm y) ents.toList 0 = some r →
          ((∃ i, r = some (i, v)) → (execOp (ev tm) o).run P w = .ok (.value (if ok then .tuple #[v, .bool true] else v)) w) ∧
          (r = none → (zeroValue et).run P w = .ok v w → (execOp (ev tm) o).run P w = .ok (.value (if ok then .tuple #[v, .bool false] else v)) w) := by
        have hck : ∀ e : Bool, (Instr.checkKey e 10000 kt (ev tm y)).run P w = .ok () w := fun e => run_checkKey hk 9999
        rcases mapEs_rel h rm he1 with ⟨e1, rfl⟩ | ⟨i, b, ents, clock, _, e1, hb, hi, q1, q2⟩
        · refine ⟨#[], trivial, fun v r hr => ?_⟩
          have hf := run_findKey (P := P) hku hr w
          refine ⟨?_, ?_⟩
          · rintro ⟨j, rfl⟩
            simp at hf
            simp [execOp, ho, e1, Instr.lookup, run_underlying hu, hck, hf]
          · rintro rfl hz
            simp at hf
            simp [execOp, ho, e1, Instr.lookup, run_underlying hu, hck, hf, hz]
        · refine ⟨ents, q2, fun v r hr => ?_⟩
          have hf := run_findKey (P := P) hku hr w
          refine ⟨?_, ?_⟩
          · rintro ⟨j, rfl⟩
            simp [execOp, ho, e1, Instr.lookup, run_underlying hu, hck, hf, getObj, Sem.run, q1]
          · rintro rfl hz
            simp [execOp, ho, e1, Instr.lookup, run_underlying hu, hck, hf, getObj, Sem.run, q1, hz]
      obtain ⟨ents, hm, hrun⟩ := hes
      split at hx
      · rename_i d0 hf
        simp only [Option.some.injEq, Prod.mk.injEq, Out.val.injEq] at hx
        obtain ⟨rfl, rfl⟩ := hx
        rcases find_rel hk hku rk _ _ 0 _ hm hf with ⟨q1, _⟩ | ⟨d', j, m', q1, q2, q3, q4, q5⟩
        · simp at q1
        · simp at q1; subst q1
          have := (hrun m'.val _ q2).1 ⟨_, rfl⟩
          cases ok with
          | true => exact Zdw h this (rel_tup2 q4) (tok_tup2 (tokA_plainD q4 q5))
          | false => exact Zdw h this q4 (tok_plainD q4 q5)
      · rename_i hf
        obtain ⟨z, hz, hz2⟩ := Option.map_eq_some_iff.1 hx
        simp only [Prod.mk.injEq, Out.val.injEq] at hz2
        obtain ⟨rfl, rfl⟩ := hz2
        obtain ⟨zv, z1, z2⟩ := Zit hz w
        obtain ⟨r1, r2⟩ := Zj3 (w := w) (G := G) z2
        rcases find_rel hk hku rk _ _ 0 _ hm hf with ⟨_, q2⟩ | ⟨d', j, m', q1, _⟩
        · have := (hrun zv _ q2).2 rfl z1
          cases ok with
          | true => exact Zdw h this (rel_tup2 r1) (tok_tup2 (tokA_ofV z2))
          | false => exact Zdw h this r1 r2
        · simp at q1
      · simp at hx
    · simp at hx
  · simp at hx

theorem sameBits_key {k : E} {v : Value} {n : Nat} (hk : isKey k = true) (hv : RelE w G.S v k) : Instr.sameBits n v v = true := by
  cases hv <;> first | (simp [isKey] at hk; done) | (simp [Instr.sameBits]; done) | (simp only [Instr.sameBits]; exact ba_refl _)

/-- Where a key was found: what storing there comes to. -/
theorem set_rel {kt : TypeId} {k : E} {v x : Value} {dx : D} {u : TypeDesc} (hk : keyOk P kt k = true) (hu : P.underlying kt = some u) (hv : RelE w G.S v k) (hxv : RelD w G x dx) (hp : plainD dx = true) (born : Nat) :
    ∀ (ms : List MapEntry) (es es' : List (E × D)) (i : Nat), RelM w G ms es → setD k dx es = some es' →
      (Instr.findNow u v ms i = some none ∧ RelM w G (ms ++ [{ key := v, val := x, born := born }]) es') ∨
      ∃ j m, Instr.findNow u v ms i = some (some (i + j, m.val)) ∧ ms[j]? = some m ∧ m.key = v ∧ RelM w G (ms.modify j fun e => { e with key := v, val := x }) es'
  | [], [], es', i, _, h => by
    simp [setD] at h; subst h
    exact .inl ⟨rfl, hv, hxv, hp, trivial⟩
  | [], _ :: _, _, _, h, _ => h.elim
  | _ :: _, [], _, _, h, _ => h.elim
  | m :: ms, (k', d) :: es, es', i, hm, h => by
    obtain ⟨a, b, c, rest⟩ := hm
    simp only [setD] at h
    split at h
    · rename_i he
      simp at h; subst h
      have hs := keyEq_now hk hu hv a he
      refine .inr ⟨0, m, by simp only [Instr.findNow, hs.1, Nat.add_zero], rfl, (hs.2 rfl).symm, ?_⟩
      exact ⟨hv, hxv, hp, rest⟩
    · rename_i he
      obtain ⟨es2, h2, rfl⟩ := Option.map_eq_some_iff.1 h
      have hs := keyEq_now hk hu hv a he
      rcases set_rel hk hu hv hxv hp born ms es es2 (i + 1) rest h2 with ⟨q1, q2⟩ | ⟨j, m', q1, q2, q3, q4⟩
      · exact .inl ⟨by simp only [Instr.findNow, hs.1, q1], a, b, c, q2⟩
      · refine .inr ⟨j + 1, m', ?_, by simpa using q2, q3, ?_⟩
        · simp only [Instr.findNow, hs.1, q1]; congr 3; omega
        · exact ⟨a, b, c, q4⟩
    · simp at h

theorem op_mapUpdate (h : RelSt w G tm df pv pd s) {rest : List Oper} {o : Oper} {t : TypeId} {x y z : Operand} (ho : o.op = .mapUpdate t x y z ∨ o.op = .insert t x y z) {d : D} {s1 : St} (hx : exOp P rest o s = some (.val d, s1)) : Zi6 P w G tm df pv pd s o d s1 := by
  have hx' : (match mapT P t, rd s x, rd s y, sh s z with
    | some (kt, _), some (.map i), some (.e k), some (v, s1) =>
      if keyOk P kt k && plainD v then
        match s1.h[i]? with
        | some (.map es) => (setD k v es).map fun es' => (Out.val Zav, { s1 with h := s1.h.set i (.map es') })
        | _ => none
      else none
    | _, _, _, _ => none) = some (Out.val d, s1) := by
    rcases ho with ho | ho <;> (simp only [exOp, ho] at hx; exact hx)
  split at hx'
  · rename_i kt et i k v s2 h1 h2 h3 h4
    split at hx'
    · rename_i hkp
      obtain ⟨hk, hp⟩ : keyOk P kt k = true ∧ plainD v = true := by simpa using hkp
      split at hx'
      · rename_i es hi
        obtain ⟨es', hse, he⟩ := Option.map_eq_some_iff.1 hx'
        simp only [Prod.mk.injEq, Out.val.injEq] at he
        obtain ⟨rfl, rfl⟩ := he
        obtain ⟨G1, m1, m2, m3, m4, m5, m6⟩ := sh_rel h h4
        have hu := mapT_some h1
        obtain ⟨u, hku⟩ := keyOk_und hk
        have rm : RelD w G1 (ev tm x) (.map i) := (Zgg h h2).mono m3.later
        have rk := Zfk ((Zgg h h3).mono m3.later)
        have rz := m1.P.head.1
        rcases mapEs_rel m1.drop rm (es := es) (by simp only [mapEs, hi]) with ⟨e1, _⟩ | ⟨i', b, ents, clock, e0, e1, hb, hi', q1, q2⟩
        · generalize ev tm x = vx at rm e1
          subst e1; cases rm
        · cases e0
          have hck : (Instr.checkKey false 10000 kt (ev tm y)).run P w = .ok () w := run_checkKey hk 9999
          have hlt : b < w.heap.size := Zhz q1
          -- the map then
          have key : ∃ ents' clock', (execOp (ev tm) o).run P w = .ok .skip (setB w b (.map ents' clock')) ∧ RelM w G1 ents'.toList es' := by
            have hkk : isKey k = true := by
              unfold keyOk at hk; split at hk <;> first | rfl | (simp at hk; done)
            have hex : (execOp (ev tm) o) = (do Instr.mapUpdate t (ev tm x) (ev tm y) (ev tm z); pure .skip) := by rcases ho with ho | ho <;> simp [execOp, ho]
            rcases set_rel hk hku rk rz hp clock _ _ _ 0 q2 hse with ⟨f1, f2⟩ | ⟨j, m, f1, f2, f3, f4⟩
            · refine ⟨ents.push { key := ev tm y, val := ev tm z, born := clock }, clock + 1, ?_, by simpa using f2⟩
              rw [hex]
              have hf := run_findKey (P := P) hku f1 w
              simp [e1, Instr.mapUpdate, run_underlying hu, getObj, setObj, Sem.run, q1, hck, hf, setB]
            · refine ⟨ents.modify j fun e => { e with key := ev tm y, val := ev tm z }, clock, ?_, by simpa using f4⟩
              rw [hex]
              have hf := run_findKey (P := P) hku f1 w
              have hje : ents[j]? = some m := by simpa using f2
              have hsb : Instr.sameBits 10000 (ev tm y) (ev tm y) = true := sameBits_key hkk rk
              simp [e1, Instr.mapUpdate, run_underlying hu, getObj, setObj, Sem.run, q1, hck, hf, setB, hje, f3, Instr.keyThatStays, hsb]
          obtain ⟨ents', clock', hrun, hrel⟩ := key
          obtain ⟨n1, n2⟩ := m1.drop.setObj (o' := .map es') (x := .map ents' clock') hi hb rfl rfl (by simp) (fun later => by
            obtain ⟨p1, p2⟩ := relM_to _ _ (hrel.mono later)
            exact ⟨ents', clock', setB_same hlt, by simpa using p1, fun i m k d a b => p2 i m k d (by simpa using a) b⟩)
          refine ⟨_, G1, .skip, undef, hrun, .inr ⟨rfl, rfl⟩, n1.dup (Zho _ _) Ze6, ?_, m5, m6⟩
          refine ((m3.weaken (fun _ => Nat.le_refl _) (fun b hb => Nat.le_trans (Zgm b) (m3.cnt b hb))).trans n2).weaken (fun _ => Nat.le_refl _) (fun b hb => ?_)
          have a1 := n2.cnt b (by exact hb); have a2 := m3.cnt b hb; have a3 := Ze6 b
          have a4 := Zgm (w := w) (G := G1) (tm := tm) (pv := pv) (pd := pd) (s := s2) (v := ev tm z) (d := v) b
          simp only [cntS, sumZ] at *; omega
      · simp at hx'
    · simp at hx'
  · simp at hx'
end

end Go.Abs

namespace Go.Abs

section
variable {P : Program} {w : World} {G : Gh} {tm : List Value} {df : List Deferred} {pv : List Value} {pd : List D} {s : St}

theorem RelL.left {vs us : List Value} {ds cs : List D} (hl : vs.length = ds.length) (h : RelL w G (vs ++ us) (ds ++ cs)) : RelL w G vs ds :=
  ⟨hl, fun i v d hi hd => h.rel i v d (by rw [List.getElem?_append_left (List.getElem?_eq_some_iff.1 hi).1]; exact hi) (by rw [List.getElem?_append_left (List.getElem?_eq_some_iff.1 hd).1]; exact hd),
   fun i v d hi hd => h.leaf i v d (by rw [List.getElem?_append_left (List.getElem?_eq_some_iff.1 hi).1]; exact hi) (by rw [List.getElem?_append_left (List.getElem?_eq_some_iff.1 hd).1]; exact hd)⟩
theorem RelL.right {vs us : List Value} {ds cs : List D} (hl : vs.length = ds.length) (h : RelL w G (vs ++ us) (ds ++ cs)) : RelL w G us cs := by
  refine ⟨by have := h.len; simp at this; omega, fun i v d hi hd => h.rel (vs.length + i) v d ?_ ?_, fun i v d hi hd => h.leaf (vs.length + i) v d ?_ ?_⟩
  all_goals first
    | (rw [List.getElem?_append_right (by omega)]; simpa using hi)
    | (rw [List.getElem?_append_right (by omega)]; rw [show vs.length + i - ds.length = i by omega]; exact hd)

/-- Pending values in another order. -/
theorem RelSt.rot {vs : List Value} {ds : List D} {v : Value} {d : D} (hl : vs.length = ds.length) (h : RelSt w G tm df (vs ++ v :: pv) (ds ++ d :: pd) s) :
    RelSt w G tm df (v :: (vs ++ pv)) (d :: (ds ++ pd)) s ∧ ∀ b, cntS w G tm (v :: (vs ++ pv)) (d :: (ds ++ pd)) s b = cntS w G tm (vs ++ v :: pv) (ds ++ d :: pd) s b := by
  have h1 := h.P.left hl
  have h2 := h.P.right hl
  have e : ∀ b, sumZ (tokT b) (v :: (vs ++ pv)) (d :: (ds ++ pd)) = sumZ (tokT b) (vs ++ v :: pv) (ds ++ d :: pd) := by
    intro b
    rw [Zg4 _ _ _ _ _ hl]
    simp only [sumZ]
    rw [Zg4 _ _ _ _ _ hl]; omega
  refine ⟨{ L := h.L, P := (h1.append h2.tail).cons h2.head.1 h2.head.2, len := h.len, nd := h.nd, obS := h.obS, H := h.H, S := h.S, dfr := h.dfr, one := ?_, noob := ?_ }, ?_⟩
  · intro b; rw [e]; exact h.one b
  · intro b hb; rw [e]; exact h.noob b hb
  · intro b; simp only [cntS, e]

theorem tks_rel : ∀ (xs : List Operand) {s : St} {pv : List Value} {pd : List D} {ds : List D} {s1 : St}, RelSt w G tm df pv pd s → tks s xs = some (ds, s1) →
    RelSt w G tm df (xs.map (ev tm) ++ pv) (ds ++ pd) s1 ∧ xs.length = ds.length ∧ (∀ b, cntS w G tm (xs.map (ev tm) ++ pv) (ds ++ pd) s1 b = cntS w G tm pv pd s b) ∧ s1.h = s.h ∧ s1.d = s.d ∧ s1.r = s.r
  | [], s, pv, pd, ds, s1, h, hx => by
    simp [tks] at hx
    obtain ⟨rfl, rfl⟩ := hx
    exact ⟨h, rfl, fun _ => rfl, rfl, rfl, rfl⟩
  | x :: xs, s, pv, pd, ds, s1, h, hx => by
    simp only [tks] at hx
    split at hx
    · rename_i d0 s2 h1
      split at hx
      · rename_i ds2 s3 h2
        simp at hx
        obtain ⟨rfl, rfl⟩ := hx
        obtain ⟨k1, k2, k3, k4, k5⟩ := tk_rel h h1
        obtain ⟨m1, m2, m3, m4, m5, m6⟩ := tks_rel xs k1 h2
        obtain ⟨n1, n2⟩ := m1.rot (by simpa using m2)
        exact ⟨n1, by simp [m2], fun b => (n2 b).trans ((m3 b).trans (k2 b)), m4.trans k3, m5.trans k4, m6.trans k5⟩
      · simp at hx
    · simp at hx

theorem fold_splice (off : Nat) : ∀ (vs : List Value) (k : Nat) (cells : Array Value), off + k + vs.length ≤ cells.size →
    ((vs.zipIdx k).foldl (fun cs (x : Value × Nat) => cs.setIfInBounds (off + x.2) x.1) cells).toList = Zid cells.toList (off + k) vs
  | [], k, cells, h => by simp [Zid]
  | v :: vs, k, cells, h => by
    simp only [List.zipIdx_cons, List.foldl_cons]
    simp only [List.length_cons] at h
    rw [fold_splice off vs (k + 1) _ (by simp; omega)]
    rw [show (cells.setIfInBounds (off + k) v).toList = cells.toList.set (off + k) v from by simp]
    have hz : cells.toList.length = cells.size := by simp
    apply List.ext_getElem?; intro i
    rw [Zek _ _ _ (by simp; omega), Zek _ _ _ (by simp; omega)]
    simp only [List.length_cons]
    by_cases h1 : i < off + k
    · rw [if_pos (by omega), if_pos h1, List.getElem?_set_ne (by omega)]
    · rw [if_neg h1]
      by_cases h2 : i = off + k
      · subst h2
        rw [if_pos (by omega), if_pos (by omega), List.getElem?_set_self (by omega)]
        simp
      · rw [if_neg (by omega)]
        by_cases h3 : i < off + (k + 1) + vs.length
        · rw [if_pos h3, if_pos (by omega), show i - (off + k) = (i - (off + (k + 1))) + 1 by omega]; simp
        · rw [if_neg h3, if_neg (by omega), List.getElem?_set_ne (by omega)]

/-- A pending aggregate takes in a pending part. -/
theorem RelSt.merge {cells cells' : Array Value} {cs : List D} {v : Value} {d : D} {off : Nat} (h : RelSt w G tm df (.agg cells :: v :: pv) (.agg cs :: d :: pd) s) (hn : notTup d = true)
    (ho : off + (cellsOf d).length ≤ cs.length) (hc : cells'.toList = Zid cells.toList off v.cells.toList) :
    RelSt w G tm df (.agg cells' :: pv) (.agg (Zeq cs off (cellsOf d)) :: pd) s ∧ ∀ b, cntS w G tm (.agg cells' :: pv) (.agg (Zeq cs off (cellsOf d)) :: pd) s b ≤ cntS w G tm (.agg cells :: v :: pv) (.agg cs :: d :: pd) s b := by
  obtain ⟨ra, la⟩ := h.P.head
  obtain ⟨rd', ld⟩ := h.P.tail.head
  cases ra with
  | agg _ _ a1 a2 a3 =>
  rw [Zd8 rfl] at la
  have hla : ∀ (i : Nat) v d, cells[i]? = some v → cs[i]? = some d → Leaf0 w G.S v d := la
  obtain ⟨c1, c2⟩ := cells_one rd' hn
  have c3 := cells_rel rd' ld hn
  have c4 := cells_tok rd' hn
  have hcl : cells.toList.length = cs.length := by simpa using a1
  have hvl : v.cells.toList.length = (cellsOf d).length := by simpa using c1
  have hpt : ∀ (i : Nat) u e, cells'[i]? = some u → (Zeq cs off (cellsOf d))[i]? = some e → RelD w G u e ∧ Leaf0 w G.S u e := by
    intro i u e hu he
    have hu' : cells'.toList[i]? = some u := by simpa using hu
    rw [hc, Zek _ _ _ (by omega), hvl] at hu'
    rw [Zf5, Zek _ _ _ ho] at he
    split at hu'
    · rename_i hk; rw [if_pos hk] at he
      exact ⟨a3 i u e (by simpa using hu') he, hla i u e (by simpa using hu') he⟩
    · rename_i hk; rw [if_neg hk] at he
      split at hu'
      · rename_i hk2; rw [if_pos hk2] at he
        exact c3 _ u e (by simpa using hu') he
      · rename_i hk2; rw [if_neg hk2] at he
        exact ⟨a3 i u e (by simpa using hu') he, hla i u e (by simpa using hu') he⟩
  have hsz : cells'.size = (Zeq cs off (cellsOf d)).length := by
    rw [Zf5, Zg2 _ _ _ ho]
    have := congrArg List.length hc
    rw [Zg2 _ _ _ (by omega)] at this
    simp at this hcl; omega
  have htok : ∀ b, tokT b (.agg cells') (.agg (Zeq cs off (cellsOf d))) ≤ tokT b (.agg cells) (.agg cs) + tokT b v d := by
    intro b
    simp only [tokT, tokA]
    have := sumZ_splice (tok b) cells.toList v.cells.toList cs (cellsOf d) off (Nat.le_of_eq hcl.symm) hvl ho
    rw [← hc, ← Zf5, c4] at this
    simp only [tokT, tokA] at this ⊢
    omega
  have hone : ∀ u ∈ cells'.toList, u.oneCell' = true := by
    intro u hu
    rw [hc] at hu
    simp only [Zid, List.mem_append] at hu
    rcases hu with (hu | hu) | hu
    · exact a2 u (List.mem_of_mem_take hu)
    · exact c2 u hu
    · exact a2 u (List.mem_of_mem_drop hu)
  refine ⟨{ L := h.L, P := h.P.tail.tail.cons (.agg _ _ hsz hone (fun i u e hu he => (hpt i u e hu he).1)) (by rw [Zd8 rfl]; exact fun i u e hu he => (hpt i u e hu he).2), len := h.len, nd := h.nd, obS := h.obS, H := h.H, S := h.S, dfr := h.dfr, one := ?_, noob := ?_ }, ?_⟩
  · intro b; have := h.one b; have := htok b; simp only [sumZ] at *; omega
  · intro b hb; have := h.noob b hb; have := htok b; simp only [sumZ] at *; omega
  · intro b; have := htok b; simp only [cntS, sumZ] at *; omega

theorem fill_rel {place placeD : Nat → Option (Nat × Nat)} (hp : ∀ i p, placeD i = some p → place i = some p) : ∀ (is : List Nat) (vs : List Value) (ds : List D) (cells : Array Value) (cs cs' : List D),
    vs.length = ds.length → is.length = ds.length → RelSt w G tm df (.agg cells :: (vs ++ pv)) (.agg cs :: (ds ++ pd)) s → fillD placeD cs (is.zip ds) = some cs' →
    ∃ cells', Instr.fill place cells (is.zip vs) = some cells' ∧ RelSt w G tm df (.agg cells' :: pv) (.agg cs' :: pd) s ∧ ∀ b, cntS w G tm (.agg cells' :: pv) (.agg cs' :: pd) s b ≤ cntS w G tm (.agg cells :: (vs ++ pv)) (.agg cs :: (ds ++ pd)) s b
  | [], vs, ds, cells, cs, cs', h1, h2, h, hf => by
    have : ds = [] := by simpa using h2.symm
    subst this
    have : vs = [] := by simpa using h1
    subst this
    simp [fillD] at hf; subst hf
    exact ⟨cells, rfl, h, fun _ => Nat.le_refl _⟩
  | i :: is, [], ds, _, _, _, h1, h2, _, _ => by simp at h1 h2; omega
  | i :: is, v :: vs, [], _, _, _, h1, _, _, _ => by simp at h1
  | i :: is, v :: vs, d :: ds, cells, cs, cs', h1, h2, h, hf => by
    simp only [List.zip_cons_cons, fillD] at hf
    split at hf
    · rename_i off size hpl
      split at hf
      · rename_i hc
        obtain ⟨c1, c2, c3⟩ := hc
        have kr := h.P.tail.head.1
        obtain ⟨q1, q2⟩ := cells_one kr c3
        have hcs : cells.size = cs.length := by
          have := h.P.head.1
          cases this with | agg _ _ a1 _ _ => exact a1
        obtain ⟨m1, m2⟩ := h.merge (off := off) (cells' := (v.cells.zipIdx).foldl (fun cs (x : Value × Nat) => cs.setIfInBounds (off + x.2) x.1) cells) c3 (by omega) (by
          have := fold_splice off v.cells.toList 0 cells (by simp; omega)
          rw [Nat.add_zero] at this
          rw [← this, ← Array.foldl_toList]
          simp)
        obtain ⟨cells', f1, f2, f3⟩ := fill_rel hp is vs ds _ _ cs' (by simpa using h1) (by simpa using h2) m1 hf
        refine ⟨cells', ?_, f2, fun b => Nat.le_trans (f3 b) (m2 b)⟩
        simp only [List.zip_cons_cons, Instr.fill, hp i _ hpl]
        have hc0 : ¬ ((v.cells.size ≠ size || decide (off + v.cells.size > cells.size)) = true) := by simp; omega
        rw [if_neg hc0]
        exact f1
      · simp at hf
    · simp at hf

theorem zip_map_parts (f : Operand → Value) : ∀ (ps : List (Nat × Operand)), (ps.map (·.1)).zip ((ps.map (·.2)).map f) = ps.map fun x => (x.1, f x.2)
  | [] => rfl
  | p :: ps => by simp only [List.map_cons, List.zip_cons_cons]; rw [zip_map_parts f ps]

/-- A struct's parts: where each lies. -/
def placesOf (fs : Array Field) : Sem (Array (Nat × Nat)) := fs.mapM fun (f : Field) => do pure (f.offset, ← sizeOf f.type)

theorem run_mapM_places {fs : Array Field} (h : fs.toList.all (fun (f : Field) => (szOf P f.type).isSome) = true) (w : World) :
    ∃ pl : Array (Nat × Nat), (placesOf fs).run P w = .ok pl w ∧ ∀ (i : Nat) (p : Nat × Nat), ((fs[i]?).bind fun (f : Field) => (szOf P f.type).map fun n => (f.offset, n)) = some p → pl[i]? = some p := by
  have aux : ∀ (l : List Field), (l.all fun (f : Field) => (szOf P f.type).isSome) = true → ∃ pl : List (Nat × Nat), (l.mapM fun (f : Field) => (do pure (f.offset, ← sizeOf f.type) : Sem (Nat × Nat))).run P w = .ok pl w ∧
      ∀ (i : Nat) (p : Nat × Nat), ((l[i]?).bind fun (f : Field) => (szOf P f.type).map fun n => (f.offset, n)) = some p → pl[i]? = some p := by
    intro l
    induction l with
    | nil => intro _; exact ⟨[], by simp, fun i p h => by simp at h⟩
    | cons f l ih =>
      intro h
      simp only [List.all_cons, Bool.and_eq_true] at h
      obtain ⟨h1, h2⟩ := h
      obtain ⟨n, hn⟩ := Option.isSome_iff_exists.1 h1
      obtain ⟨pl, k1, k2⟩ := ih h2
      refine ⟨(f.offset, n) :: pl, ?_, fun i p hi => ?_⟩
      · simp only [List.mapM_cons, Sem.run_bind, Zgv hn, Result.andThen_ok, Sem.run_pure]
        rw [k1]; rfl
      · cases i with
        | zero => simp [hn] at hi; subst hi; rfl
        | succ i => exact k2 i p (by simpa using hi)
  obtain ⟨pl, k1, k2⟩ := aux fs.toList h
  refine ⟨pl.toArray, ?_, fun i p hi => by
    have := k2 i p (by simpa using hi)
    simpa using this⟩
  unfold placesOf
  rw [Array.mapM_eq_mapM_toList]
  simp only [Sem.run_map, k1, Result.andThen_ok]

theorem zeroOf_agg {t : TypeId} {z : List D} (hz : Zgs P t = some (.agg z)) (w : World) : ∃ vs : Array Value, (zeroValue t).run P w = .ok (.agg vs) w ∧ ∀ (w : World) (G : Gh), RelD w G (.agg vs) (.agg z) ∧ ∀ b, tokT b (.agg vs) (.agg z) = 0 := by
  obtain ⟨zv, z1, z2⟩ := Zit hz w
  have := (Zj3 (w := w) (G := ⟨[], fun _ _ => False⟩) z2).1
  obtain ⟨vs, rfl, _⟩ := relD_agg this
  exact ⟨vs, z1, fun w G => Zj3 z2⟩

theorem op_build (h : RelSt w G tm df pv pd s) {rest : List Oper} {o : Oper} {t : TypeId} {ps : Array (Nat × Operand)} (ho : o.op = .build t ps) {d : D} {s1 : St} (hx : exOp P rest o s = some (.val d, s1)) : Zi6 P w G tm df pv pd s o d s1 := by
  simp only [exOp, ho] at hx
  split at hx
  · rename_i ds s2 h1
    obtain ⟨d', hb, he⟩ := Option.map_eq_some_iff.1 hx
    simp only [Prod.mk.injEq, Out.val.injEq] at he
    obtain ⟨rfl, rfl⟩ := he
    obtain ⟨k1, k2, k3, k4, k5, k6⟩ := tks_rel _ h h1
    have hparts : (ps.map fun (x : Nat × Operand) => (x.1, ev tm x.2)).toList = (ps.toList.map (·.1)).zip ((ps.toList.map (·.2)).map (ev tm)) := by
      rw [zip_map_parts]; simp
    have fin : ∀ {z cs' : List D} {vs cells' : Array Value} {w1 : World}, RelSt w G tm df (.agg cells' :: pv) (.agg cs' :: pd) s2 →
        (∀ b, cntS w G tm (.agg cells' :: pv) (.agg cs' :: pd) s2 b ≤ cntS w G tm pv pd s b) → (execOp (ev tm) o).run P w = .ok (.value (.agg cells')) w → Zi6 P w G tm df pv pd s o (.agg cs') s2 :=
      fun a b c => ⟨w, G, _, _, c, .inl rfl, a, (Ext.refl w G _).weaken (fun _ => Nat.le_refl _) (fun x _ => b x), k5, k6⟩
    unfold buildD at hb
    split at hb
    · rename_i z fs hz hu
      split at hb
      · rename_i hall
        obtain ⟨cs', hf, rfl⟩ := Option.map_eq_some_iff.1 hb
        obtain ⟨vs, z1, z2⟩ := zeroOf_agg hz w
        obtain ⟨r1, r2⟩ := z2 w G
        obtain ⟨pl, p1, p2⟩ := run_mapM_places hall w
        obtain ⟨cells', f1, f2, f3⟩ := fill_rel (place := (pl[·]?)) p2 _ _ ds vs z cs' (by simpa using k2) (by simpa using k2) (k1.dup r1 r2) hf
        refine fin (z := z) (vs := vs) (w1 := w) f2 (fun b => Nat.le_trans (f3 b) ?_) ?_
        · have := k3 b; have := r2 b; simp only [cntS, sumZ] at *; omega
        · simp only [execOp, ho, Instr.build, Sem.run_bind, z1, Result.andThen_ok, run_underlying hu, Value.cells]
          unfold placesOf at p1
          rw [p1]
          simp only [Result.andThen_ok]
          rw [show (ps.map fun (x : Nat × Operand) => (x.1, ev tm x.2)).toList = _ from hparts, f1]
          rfl
      · simp at hb
    · rename_i z n e hz hu
      split at hb
      · rename_i sz hsz
        obtain ⟨cs', hf, rfl⟩ := Option.map_eq_some_iff.1 hb
        obtain ⟨vs, z1, z2⟩ := zeroOf_agg hz w
        obtain ⟨r1, r2⟩ := z2 w G
        obtain ⟨cells', f1, f2, f3⟩ := fill_rel (place := fun i => some (i * sz, sz)) (fun _ _ h => h) _ _ ds vs z cs' (by simpa using k2) (by simpa using k2) (k1.dup r1 r2) hf
        refine fin (z := z) (vs := vs) (w1 := w) f2 (fun b => Nat.le_trans (f3 b) ?_) ?_
        · have := k3 b; have := r2 b; simp only [cntS, sumZ] at *; omega
        · simp only [execOp, ho, Instr.build, Sem.run_bind, z1, Result.andThen_ok, run_underlying hu, Value.cells, Zgv hsz]
          rw [show (ps.map fun (x : Nat × Operand) => (x.1, ev tm x.2)).toList = _ from hparts, f1]
          rfl
      · simp at hb
    · simp at hb
  · simp at hx
end

end Go.Abs

namespace Go.Abs

section
variable {P : Program} {w : World} {G : Gh} {tm : List Value} {df : List Deferred} {pv : List Value} {pd : List D} {s : St}

/-- Cells that are said by plain values. -/
structure Plain (w : World) (G : Gh) (cells : Array Value) (cs : List D) : Prop where
  len : cells.size = cs.length
  one : ∀ v ∈ cells.toList, v.oneCell' = true
  rel : ∀ (i : Nat) v d, cells[i]? = some v → cs[i]? = some d → RelD w G v d ∧ own0 d = false

theorem plain_cells {v : Value} {d : D} (h : RelD w G v d) (ho : ownD d = false) (hn : notTup d = true) : Plain w G v.cells (cellsOf d) := by
  obtain ⟨c1, c2⟩ := cells_one h hn
  refine ⟨c1, c2, fun i u e hu he => ?_⟩
  refine ⟨(cells_rel h (Zfm (fun b => Zgt h ho)) hn i u e hu he).1, ?_⟩
  cases hf : flat d with
  | true =>
    have e2 : cellsOf d = [d] := by cases d <;> simp_all [flat, cellsOf]
    rw [e2] at he
    cases i with
    | zero => simp at he; subst he; cases d <;> simp_all [flat, ownD, ownA]
    | succ i => simp at he
  | false =>
    cases d <;> simp [flat] at hf
    · rename_i ds
      have : ∀ x ∈ ds, own0 x = false := by simpa [ownD, ownA] using ho
      exact this e (List.mem_of_getElem? he)
    · simp [notTup] at hn

theorem fill_plain {place placeD : Nat → Option (Nat × Nat)} (hp : ∀ i p, placeD i = some p → place i = some p) : ∀ (is : List Nat) (vs : List Value) (ds : List D) (cells : Array Value) (cs cs' : List D),
    vs.length = ds.length → is.length = ds.length → (∀ (i : Nat) v d, vs[i]? = some v → ds[i]? = some d → RelD w G v d ∧ ownD d = false) → Plain w G cells cs → fillD placeD cs (is.zip ds) = some cs' →
    ∃ cells', Instr.fill place cells (is.zip vs) = some cells' ∧ Plain w G cells' cs'
  | [], vs, ds, cells, cs, cs', h1, h2, _, h, hf => by
    have : ds = [] := by simpa using h2.symm
    subst this
    have : vs = [] := by simpa using h1
    subst this
    simp [fillD] at hf; subst hf
    exact ⟨cells, rfl, h⟩
  | i :: is, [], ds, _, _, _, h1, h2, _, _, _ => by simp at h1 h2; omega
  | i :: is, v :: vs, [], _, _, _, h1, _, _, _, _ => by simp at h1
  | i :: is, v :: vs, d :: ds, cells, cs, cs', h1, h2, hv, h, hf => by
    simp only [List.zip_cons_cons, fillD] at hf
    split at hf
    · rename_i off size hpl
      split at hf
      · rename_i hc
        obtain ⟨c1, c2, c3⟩ := hc
        obtain ⟨k1, k2⟩ := hv 0 v d rfl rfl
        have hpl2 := plain_cells k1 k2 c3
        have hl := h.len
        have hl2 := hpl2.len
        let cells1 := (v.cells.zipIdx).foldl (fun cs (x : Value × Nat) => cs.setIfInBounds (off + x.2) x.1) cells
        have hc1 : cells1.toList = Zid cells.toList off v.cells.toList := by
          have := fold_splice off v.cells.toList 0 cells (by simp; omega)
          rw [Nat.add_zero] at this
          rw [← this]
          simp only [cells1]
          rw [← Array.foldl_toList]
          simp
        have hs1 : cells1.size = cs.length := by
          have := congrArg List.length hc1
          rw [Zg2 _ _ _ (by simp; omega)] at this
          simp at this; omega
        have hp1 : Plain w G cells1 (Zeq cs off (cellsOf d)) := by
          refine ⟨by rw [Zf5, Zg2 _ _ _ (by omega)]; exact hs1, fun u hu => ?_, fun k u e hu he => ?_⟩
          · rw [hc1] at hu
            simp only [Zid, List.mem_append] at hu
            rcases hu with (hu | hu) | hu
            · exact h.one u (List.mem_of_mem_take hu)
            · exact hpl2.one u hu
            · exact h.one u (List.mem_of_mem_drop hu)
          · have hu' : cells1.toList[k]? = some u := by simpa using hu
            rw [hc1, Zek _ _ _ (by simp; omega)] at hu'
            rw [Zf5, Zek _ _ _ (by omega)] at he
            have hll : v.cells.toList.length = (cellsOf d).length := by simpa using hl2
            rw [hll] at hu'
            split at hu'
            · rename_i hk; rw [if_pos hk] at he
              exact h.rel k u e (by simpa using hu') he
            · rename_i hk; rw [if_neg hk] at he
              split at hu'
              · rename_i hk2; rw [if_pos hk2] at he
                exact hpl2.rel _ u e (by simpa using hu') he
              · rename_i hk2; rw [if_neg hk2] at he
                exact h.rel k u e (by simpa using hu') he
        obtain ⟨cells', f1, f2⟩ := fill_plain hp is vs ds cells1 _ cs' (by simpa using h1) (by simpa using h2) (fun i v d a b => hv (i + 1) v d (by simpa using a) (by simpa using b)) hp1 hf
        refine ⟨cells', ?_, f2⟩
        simp only [List.zip_cons_cons, Instr.fill, hp i _ hpl]
        have hc0 : ¬ ((v.cells.size ≠ size || decide (off + v.cells.size > cells.size)) = true) := by simp; omega
        rw [if_neg hc0]
        exact f1
      · simp at hf
    · simp at hf

theorem replD_get {z : List D} {sz : Nat} (hz : z.length = sz) (h0 : 0 < sz) : ∀ (n : Nat), (replD z n).length = n * sz ∧ ∀ k, k < n * sz → (replD z n)[k]? = z[k % sz]?
  | 0 => by simp [replD]
  | n + 1 => by
    obtain ⟨h1, h2⟩ := replD_get hz h0 n
    refine ⟨by simp [replD, h1, hz, Nat.succ_mul]; omega, fun k hk => ?_⟩
    simp only [replD]
    by_cases hlt : k < sz
    · rw [List.getElem?_append_left (by omega), Nat.mod_eq_of_lt hlt]
    · rw [List.getElem?_append_right (by omega), hz, h2 (k - sz) (by rw [Nat.succ_mul] at hk; omega)]
      congr 1
      exact (Nat.mod_eq_sub_mod (by omega)).symm

theorem zeros_plain {zv : Value} {z : D} {sz n : Nat} (hz : ofV zv = some z) (hl : (cellsOf z).length = sz) (h0 : 0 < sz) (hn : notTup z = true) :
    Plain w G ((Array.range (n * sz)).map (zv.cells[· % zv.cells.size]!)) (replD (cellsOf z) n) := by
  have hs : zv.cells.size = sz := (ofV_cells hz).trans hl
  obtain ⟨r1, r2⟩ := Zj3 (w := w) (G := G) hz
  have hp := plain_cells r1 (ofV_own hz) hn
  obtain ⟨q1, q2⟩ := replD_get hl h0 n
  refine ⟨by simp [q1], fun v hv => ?_, fun i v d hv hd => ?_⟩
  · simp only [Array.toList_map, List.mem_map] at hv
    obtain ⟨k, _, rfl⟩ := hv
    have : k % zv.cells.size < zv.cells.size := Nat.mod_lt _ (by omega)
    rw [getElem!_pos zv.cells _ this]
    exact hp.one _ (by simp)
  · have hi : i < n * sz := by rw [← q1]; exact (List.getElem?_eq_some_iff.1 hd).1
    rw [q2 i hi] at hd
    have : i % zv.cells.size < zv.cells.size := Nat.mod_lt _ (by omega)
    have hv' : v = zv.cells[i % zv.cells.size]! := by
      simp [hi] at hv; exact hv.symm
    rw [getElem!_pos zv.cells _ this] at hv'
    subst hv'
    exact hp.rel (i % sz) _ d (by rw [← hs]; exact Array.getElem?_eq_getElem this) hd

theorem toE_rel {v : Value} {d : D} {x : E} (h : RelD w G v d) (ho : own0 d = false) (hx : toE d = some x) : RelE w G.S v x := by
  unfold toE at hx
  split at hx
  · simp at hx; subst hx; exact Zfk h
  · rename_i ex fu sz es
    simp at hx; subst hx
    simp [own0] at ho
    cases h with
    | oslN _ _ _ => exact .nilsl
    | osl b o n cap _ _ _ _ hn hc hfu h0 hsz hs =>
      subst hn
      rcases h0 with h0 | ⟨rfl, h0⟩
      · exact RelE.of_rows hc h0 hsz (hs ho.1)
      · exact RelE.of_rows (sz := 1) (es := []) (by simp) (by omega) (by simp) (by simp)
  · simp at hx; subst hx
    cases h with
    | iface t v d h => exact .iface _ _ _ (Zfk h)
  · simp at hx

theorem toEs_get : ∀ (ds : List D) (xs : List E), toEs ds = some xs → ds.length = xs.length ∧ ∀ (i : Nat) (x : E), xs[i]? = some x → ∃ d, ds[i]? = some d ∧ toE d = some x
  | [], xs, h => by simp [toEs] at h; subst h; exact ⟨rfl, fun i x hi => by simp at hi⟩
  | d :: ds, xs, h => by
    simp only [toEs] at h
    split at h
    · rename_i x xs' h1 h2
      simp at h; subst h
      obtain ⟨k1, k2⟩ := toEs_get ds xs' h2
      refine ⟨by simp [k1], fun i y hi => ?_⟩
      cases i with
      | zero => simp at hi; subst hi; exact ⟨d, rfl, h1⟩
      | succ i => simpa using k2 i y (by simpa using hi)
    · simp at h

theorem rows_chunk {sz : Nat} : ∀ (n : Nat) (cs : List D) (es : List (List E)), n * sz ≤ cs.length → rowsE (chunk sz n cs) = some es →
    es.length = n ∧ (∀ r ∈ es, r.length = sz) ∧ ∀ (i : Nat) (r : List E) (j : Nat) (x : E), es[i]? = some r → r[j]? = some x → ∃ d, cs[i * sz + j]? = some d ∧ toE d = some x
  | 0, cs, es, _, h => by simp [chunk, rowsE] at h; subst h; exact ⟨rfl, by simp, fun i r j x hi => by simp at hi⟩
  | n + 1, cs, es, hn, h => by
    simp only [chunk, rowsE] at h
    split at h
    · rename_i r rs h1 h2
      simp at h; subst h
      rw [Nat.succ_mul] at hn
      obtain ⟨k1, k2⟩ := toEs_get _ _ h1
      obtain ⟨q1, q2, q3⟩ := rows_chunk n (cs.drop sz) rs (by simp; omega) h2
      have hr : r.length = sz := by rw [← k1]; simp; omega
      refine ⟨by simp [q1], fun r' hr' => ?_, fun i r' j x hi hj => ?_⟩
      · rcases List.mem_cons.1 hr' with rfl | h'
        · exact hr
        · exact q2 r' h'
      · cases i with
        | zero =>
          simp at hi; subst hi
          obtain ⟨d, a, b⟩ := k2 j x hj
          rw [List.getElem?_take] at a
          split at a
          · exact ⟨d, by simpa using a, b⟩
          · simp at a
        | succ i =>
          obtain ⟨d, a, b⟩ := q3 i r' j x (by simpa using hi) hj
          refine ⟨d, ?_, b⟩
          rw [List.getElem?_drop] at a
          rw [← a, Nat.succ_mul]; congr 1; omega
    · simp at h

theorem holds_plain {cells : Array Value} {cs : List D} {sz n : Nat} {es : List (List E)} (h : Plain w G cells cs) (hl : n * sz ≤ cs.length) (he : rowsE (chunk sz n cs) = some es) : es.length = n ∧ (∀ r ∈ es, r.length = sz) ∧ Holds w G.S cells.toList sz es := by
  obtain ⟨q1, q2, q3⟩ := rows_chunk n cs es hl he
  refine ⟨q1, q2, fun i r j x hi hj => ?_⟩
  obtain ⟨d, a, b⟩ := q3 i r j x hi hj
  have hlt : i * sz + j < cells.size := by rw [h.len]; exact (List.getElem?_eq_some_iff.1 a).1
  obtain ⟨k1, k2⟩ := h.rel _ _ d (Array.getElem?_eq_getElem hlt) a
  exact ⟨_, by simp [hlt], toE_rel k1 k2 b⟩

theorem fillD_len {place : Nat → Option (Nat × Nat)} : ∀ (ps : List (Nat × D)) (cs cs' : List D), fillD place cs ps = some cs' → cs'.length = cs.length
  | [], cs, cs', h => by simp [fillD] at h; subst h; rfl
  | (i, d) :: ps, cs, cs', h => by
    simp only [fillD] at h
    split at h
    · split at h
      · rename_i off size _ hc
        rw [fillD_len ps _ cs' h, Zf5, Zg2 _ _ _ (by omega)]
      · simp at h
    · simp at h

/-- A new row of cells that are plain. -/
theorem RelSt.newRow' (h : RelSt w G tm df pv pd s) {cells : Array Value} {cs : List D} {sz n cap : Nat} {es : List (List E)} {e : TypeId} {fu : Bool} (hp : Plain w G cells cs) (h0 : 0 < sz) (hl : n * sz ≤ cs.length) (he : rowsE (chunk sz n cs) = some es)
    (hc : n ≤ cap) (hfu : fu = true → cap = n) (hcap : cap * sz ≤ cells.size) :
    RelSt (w.alloc (.cells cells e)) G tm df (.slice (some ⟨w.heap.size, 0, none⟩) n cap :: pv) (.osl true fu sz es :: pd) s ∧
      Ext w G (cntS w G tm pv pd s) (w.alloc (.cells cells e)) G (cntS (w.alloc (.cells cells e)) G tm (.slice (some ⟨w.heap.size, 0, none⟩) n cap :: pv) (.osl true fu sz es :: pd) s) := by
  obtain ⟨q1, q2, q3⟩ := holds_plain hp hl he
  have hblk : (w.alloc (.cells cells e)).heap[w.heap.size]? = some (.cells cells e (0, 0)) := by rw [Zgr, if_pos rfl]
  exact h.fresh (by simp) (fun b hb => Zez _ _ hb) hblk (fun j hj => by simp only [World.frozen?, hblk]; simp) q1.symm hc hfu h0 q2 hcap q3 ⟨rfl, rfl⟩

theorem elemT_some {t e : TypeId} (h : elemT P t = some e) : P.underlying t = some (.slice e) := by
  unfold elemT at h; split at h
  · simp at h; subst h; assumption
  · simp at h
theorem zeroCells_some {t : TypeId} {z : List D} (h : Zed P t = some z) : ∃ d, Zgs P t = some d ∧ cellsOf d = z ∧ notTup d = true := by
  unfold Zed at h
  obtain ⟨d, h1, h2⟩ := Option.bind_eq_some_iff.1 h
  split at h2
  · rename_i hn
    simp at h2; exact ⟨d, h1, h2, hn⟩
  · simp at h2

theorem op_buildSlice (h : RelSt w G tm df pv pd s) {rest : List Oper} {o : Oper} {t : TypeId} {n : Nat} {ps : Array (Nat × Operand)} (ho : o.op = .buildSlice t n ps) {d : D} {s1 : St} (hx : exOp P rest o s = some (.val d, s1)) : Zi6 P w G tm df pv pd s o d s1 := by
  simp only [exOp, ho] at hx
  split at hx
  · rename_i ds s2 h1
    obtain ⟨d', hb, he⟩ := Option.map_eq_some_iff.1 hx
    simp only [Prod.mk.injEq, Out.val.injEq] at he
    obtain ⟨rfl, rfl⟩ := he
    obtain ⟨G2, m1, m2, m3, m4, m5, _, m6⟩ := shs_rel _ h h1
    have hparts : (ps.map fun (x : Nat × Operand) => (x.1, ev tm x.2)).toList = (ps.toList.map (·.1)).zip ((ps.toList.map (·.2)).map (ev tm)) := by
      rw [zip_map_parts]; simp
    unfold Ze9 at hb
    split at hb
    · rename_i e hel
      have hu := elemT_some hel
      split at hb
      · rename_i sz z hsz hz
        split at hb
        · rename_i hc
          obtain ⟨c1, c2, c3⟩ := hc
          split at hb
          · rename_i cs hf
            obtain ⟨es, hes, rfl⟩ := Option.map_eq_some_iff.1 hb
            obtain ⟨z0, hz0, rfl, hnt⟩ := zeroCells_some hz
            obtain ⟨zv, z1, z2⟩ := Zit hz0 w
            have hs : zv.cells.size = sz := (ofV_cells z2).trans c1
            have hp0 := zeros_plain (w := w) (G := G2) (n := n) z2 c1 c2 hnt
            obtain ⟨cells', f1, f2⟩ := fill_plain (place := fun i => some (i * sz, sz)) (fun _ _ h => h) (ps.toList.map (·.1)) ((ps.toList.map (·.2)).map (ev tm)) ds _ _ cs (by simpa using m5) (by simpa using m5) (fun i v d hv hd => by
              rw [List.getElem?_map] at hv
              cases hx' : (ps.toList.map (·.2))[i]? with
              | none => rw [hx'] at hv; simp at hv
              | some x => rw [hx'] at hv; simp at hv; subst hv; exact m6 i x d hx' hd) hp0 hf
            have hcl : cs.length = n * sz := by rw [fillD_len _ _ _ hf, (replD_get c1 c2 n).1]
            obtain ⟨r1, r2⟩ := m1.newRow' (e := e) (fu := true) f2 c2 (by omega) hes (Nat.le_refl n) (fun _ => rfl) (by rw [f2.len, hcl]; exact Nat.le_refl _)
            refine ⟨_, G2, _, _, ?_, .inl rfl, r1, m2.trans r2, m3, m4⟩
            have hbig : ¬ (n * sz > 2 ^ 24) := by omega
            have hparts' : (ps.map fun x => match x with | (i, x) => (i, ev tm x)).toList = (ps.toList.map (·.1)).zip ((ps.toList.map (·.2)).map (ev tm)) := hparts
            simp only [execOp, ho, Instr.buildSlice, Sem.run_bind, run_underlying hu, Result.andThen_ok, Zgv hsz]
            rw [if_neg hbig]
            by_cases hz' : n * sz = 0
            · have : n = 0 := by
                rcases Nat.mul_eq_zero.1 hz' with h' | h'
                · exact h'
                · omega
              subst this
              have e0 : ∀ (z : Array Value), (Array.range (0 * sz)).map (fun k => z[k % z.size]!) = #[] := fun z => by simp
              rw [e0] at f1
              simp only [hz', if_true, Sem.run_bind, Sem.run_pure, Result.andThen_ok]
              rw [show (Array.range 0).map (fun k => (#[] : Array Value)[k % (#[] : Array Value).size]!) = #[] from by simp]
              rw [hparts', f1]
              simp [newRow]
            · rw [if_neg hz']
              simp only [Sem.run_bind, z1, Sem.run_pure, Result.andThen_ok]
              rw [hparts', f1]
              simp [newRow]
          · simp at hb
        · simp at hb
      · simp at hb
    · simp at hb
  · simp at hx

theorem run_asInt' {k : IntKind} {n : Int} (w : World) : (asInt (.int k n)).run P w = .ok n w := rfl

theorem op_makeSlice (h : RelSt w G tm df pv pd s) {rest : List Oper} {o : Oper} {t : TypeId} {x y : Operand} (ho : o.op = .makeSlice t x y) {d : D} {s1 : St} (hx : exOp P rest o s = some (.val d, s1)) : Zi6 P w G tm df pv pd s o d s1 := by
  simp only [exOp, ho] at hx
  split at hx
  · rename_i l c h1 h2
    obtain ⟨d', hb, he⟩ := Option.map_eq_some_iff.1 hx
    simp only [Prod.mk.injEq, Out.val.injEq] at he
    obtain ⟨rfl, rfl⟩ := he
    have r1 := Zgg h h1
    have r2 := Zgg h h2
    unfold makeSliceD at hb
    split at hb
    · rename_i e k1 l k2 c hel
      have hu := elemT_some hel
      split at hb
      · rename_i sz by_ z hsz hby hz
        split at hb
        · rename_i hc
          obtain ⟨c1, c2, c3, c4, c5, c6⟩ := hc
          split at hb
          · rename_i r hr
            simp at hb; subst hb
            obtain ⟨z0, hz0, rfl, hnt⟩ := zeroCells_some hz
            obtain ⟨zv, z1, z2⟩ := Zit hz0 w
            obtain ⟨ti, t1, t2⟩ := run_bytesOf hby w
            have hs : zv.cells.size = sz := (ofV_cells z2).trans c1
            have hp0 := zeros_plain (w := w) (G := G) (n := c.toNat) z2 c1 c2 hnt
            obtain ⟨q1, q2⟩ := toEs_get _ _ hr
            obtain ⟨p1, p2⟩ := replD_get c1 c2 c.toNat
            have hlc : l.toNat ≤ c.toNat := by omega
            have hblk : (w.alloc (.cells ((Array.range (c.toNat * sz)).map (zv.cells[· % zv.cells.size]!)) e)).heap[w.heap.size]? = some (.cells ((Array.range (c.toNat * sz)).map (zv.cells[· % zv.cells.size]!)) e (0, 0)) := by rw [Zgr, if_pos rfl]
            have hh : Holds w G.S ((Array.range (c.toNat * sz)).map (zv.cells[· % zv.cells.size]!)).toList sz (List.replicate l.toNat r) := by
              intro i r' j x' hi hj
              rw [List.getElem?_replicate] at hi
              split at hi
              · rename_i hil
                simp at hi; subst hi
                obtain ⟨d, a, b⟩ := q2 j x' hj
                have hjs : j < sz := by rw [← c1]; exact (List.getElem?_eq_some_iff.1 a).1
                have hlt : i * sz + j < c.toNat * sz := mul_row (by omega) hjs
                have hm : (i * sz + j) % sz = j := by rw [Nat.mul_comm, Nat.mul_add_mod]; exact Nat.mod_eq_of_lt hjs
                have hlt' : i * sz + j < ((Array.range (c.toNat * sz)).map (zv.cells[· % zv.cells.size]!)).size := by simpa using hlt
                obtain ⟨a1, a2⟩ := hp0.rel (i * sz + j) _ d (Array.getElem?_eq_getElem hlt') (by rw [p2 _ hlt, hm]; exact a)
                exact ⟨_, by rw [Array.getElem?_toList]; exact Array.getElem?_eq_getElem hlt', toE_rel a1 a2 b⟩
              · simp at hi
            obtain ⟨r3, r4⟩ := h.fresh (w' := w.alloc (.cells ((Array.range (c.toNat * sz)).map (zv.cells[· % zv.cells.size]!)) e)) (n := l.toNat) (cap := c.toNat) (sz := sz) (es := List.replicate l.toNat r) (fu := decide (l = c)) (by simp) (fun b hb => Zez _ _ hb) hblk
              (fun j hj => by simp only [World.frozen?, hblk]; simp) (by simp) hlc (fun hf => by simp at hf; omega) c2 (fun r' hr' => by rw [(List.mem_replicate.1 hr').2, ← q1]; exact c1) (by simp) hh ⟨rfl, rfl⟩
            refine ⟨_, G, _, _, ?_, .inl rfl, r3, r4, rfl, rfl⟩
            have e1 : ev tm x = .int k1 l := Zfo r1
            have e2 : ev tm y = .int k2 c := Zfo r2
            have w1 : IntKind.i64.wrap l = l := by rw [IntKind.wrap_i64]; omega
            have w2 : IntKind.i64.wrap c = c := by rw [IntKind.wrap_i64]; omega
            have hbc : (by_ : Int) * c ≤ 2 ^ 48 := by
              have : (by_ : Int) * c ≤ 16384 * 4294967296 := Int.mul_le_mul (by omega) (by omega) (by omega) (by omega)
              omega
            simp only [execOp, ho, Instr.makeSlice, Sem.run_bind, run_underlying hu, Result.andThen_ok, e1, e2, run_asInt', t1, t2, w1, w2]
            have hbig : (((decide (c < 0) || decide ((by_ : Int) * c > 2 ^ 48)) || decide (l < 0) || decide (l > c)) = true) = False := by
              simp; omega
            simp only [hbig, if_false, Sem.run_bind, run_askRoom, Result.andThen_ok, Zgv hsz]
            by_cases hz' : c.toNat * sz = 0
            · have e0 : ∀ (z : Array Value), (Array.range (c.toNat * sz)).map (fun k => z[k % z.size]!) = #[] := fun z => by rw [hz']; simp
              simp only [hz', if_true, Sem.run_pure]
              simp [newRow, show Array.range 0 = #[] from rfl]
            · rw [if_neg hz']
              simp only [Sem.run_bind, z1, Sem.run_pure, Result.andThen_ok]
              simp [newRow]
          · simp at hb
        · simp at hb
      · simp at hb
    · simp at hb
  · simp at hx

end

end Go.Abs
