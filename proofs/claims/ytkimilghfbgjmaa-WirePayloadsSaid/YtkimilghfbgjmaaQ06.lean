/-
  THE OPERATIONS, ONE BY ONE: slices, interfaces, functions, maps made, conversions, length. THE OPERATIONS, ONE BY ONE: arithmetic and comparisons. No condition.
-/
import Derived.Test.YtkimilghfbgjmaaQ05
import Derived.Laws.StructEq

open Nat renaming le_refl → Yab
namespace Go.Abs
section
variable {P : Program} {w : World} {G : Gh} {tm : List Value} {df : List Deferred} {pv : List Value} {pd : List D} {s : St}
theorem Zph {b : Nat} {v : Value} {d : D} (h : flat d = true) (ho : own0 d = false) (hr : RelD w G v d) : tokT b v d = 0 := by rw [Zda h]; exact Zj4 hr ho
theorem op_unOp (h : RelSt w G tm df pv pd s) {rest : List Oper} {o : Oper} {op : UnOp} {t : TypeId} {x : Operand} (ho : o.op = .unOp op t x) {d : D} {s1 : St} (hx : exOp P rest o s = some (.val d, s1)) : Ziv P w G tm df pv pd s o d s1 := by
  simp only [exOp, ho] at hx
  split at hx
  · rename_i a h1
    simp at hx
    obtain ⟨d', h2, rfl, rfl⟩ := hx
    have hr := Zh1 h h1
    unfold unD at h2
    split at h2
    · have e := Zgb hr
      simp at h2; subst h2
      exact Zen h (by simp [execOp, ho, e, Op.unary, Op.intArith]) (.e _ _ (.int _ _)) (fun b => by rw [Zda rfl, Zme])
    · have e := Zgb hr
      simp at h2; subst h2
      exact Zen h (by simp [execOp, ho, e, Op.unary, Op.intBits]) (.e _ _ (.int _ _)) (fun b => by rw [Zda rfl, Zme])
    · have e := Ziz hr
      simp at h2; subst h2
      exact Zen h (by simp [execOp, ho, e, Op.unary]) (.e _ _ (.bool _)) (fun b => by rw [Zda rfl, Zme])
    · simp at h2
  · simp at hx
theorem Zqn {t : TypeId} {u : TypeDesc} {v : Value} (hu : P.underlying t = some u) (hi : Zk4 u = false) (w : World) : (Instr.makeInterface t v).run P w = .ok (.iface t v) w := by
  cases u <;> simp_all [Zk4, Instr.makeInterface, run_underlying hu]
theorem Zre (h : RelSt w G tm df pv pd s) {rest : List Oper} {o : Oper} {t : TypeId} {x : Operand} (ho : o.op = .makeInterface t x) {d : D} {s1 : St} (hx : exOp P rest o s = some (.val d, s1)) : Ziv P w G tm df pv pd s o d s1 := by
  simp only [exOp, ho] at hx
  split at hx
  · rename_i d0 s2 u h1 hu
    split at hx
    · simp at hx
    · rename_i hi
      have hrun := Zqn (v := ev tm x) hu (by simpa using hi) w
      split at hx
      · rename_i v
        simp at hx
        obtain ⟨rfl, rfl⟩ := hx
        exact Zl5 h h1 (fun G' _ hr => ⟨_, by simp [execOp, ho, hrun], .e _ _ (.iface _ _ _ (Zg8 hr)), fun b => by rw [Zda rfl, Zme]⟩)
      · simp at hx
        obtain ⟨rfl, rfl⟩ := hx
        exact Zl5 h h1 (fun G' _ hr => ⟨_, by simp [execOp, ho, hrun], .iface _ _ _ hr, fun b => Zph rfl rfl (RelD.iface _ _ _ hr)⟩)
  · simp at hx
theorem Zs6 : ∀ (xs : List Operand) {G : Gh} {s : St} {ds : List D} {s1 : St}, RelSt w G tm df pv pd s → shs s xs = some (ds, s1) →
    ∃ G', RelSt w G' tm df pv pd s1 ∧ Ext w G (cntS w G tm pv pd s) w G' (cntS w G' tm pv pd s1) ∧ s1.d = s.d ∧ s1.r = s.r ∧ xs.length = ds.length ∧ s1.h = s.h ∧
      ∀ (i : Nat) x d, xs[i]? = some x → ds[i]? = some d → RelD w G' (ev tm x) d ∧ ownD d = false
  | [], G, s, ds, s1, h, hx => by
    simp [shs] at hx
    obtain ⟨rfl, rfl⟩ := hx
    exact ⟨G, h, .refl _ _ _, rfl, rfl, rfl, rfl, fun i x d hi => by simp at hi⟩
  | x :: xs, G, s, ds, s1, h, hx => by
    simp only [shs] at hx
    split at hx
    · rename_i d0 s2 h1
      split at hx
      · rename_i ds2 s3 h2
        simp at hx
        obtain ⟨rfl, rfl⟩ := hx
        obtain ⟨G1, k1, k2, k3, k3', k4, k5⟩ := Zon h h1
        obtain ⟨G2, m1, m2, m3, m4, m5, m5', m6⟩ := Zs6 xs k1.drop h2
        refine ⟨G2, m1, (k3.weaken (fun _ => Yab _) (fun b hb => Nat.le_trans (Zh3 b) (k3.cnt b hb))).trans m2, m3.trans k4, m4.trans k5, by simp [m5], m5'.trans k3', fun i y d hi hd => ?_⟩
        cases i with
        | zero =>
          simp at hi hd; subst hi; subst hd
          exact ⟨k1.P.head.1.mono m2.later, Zs8 h1⟩
        | succ i => exact m6 i y d (by simpa using hi) (by simpa using hd)
      · simp at hx
    · simp at hx
theorem Zyo (h : RelSt w G tm df pv pd s) {rest : List Oper} {o : Oper} {fn : Fn} {a c : Array Operand} (ho : o.op = .makeFunc fn a c) {d : D} {s1 : St} (hx : exOp P rest o s = some (.val d, s1)) : Ziv P w G tm df pv pd s o d s1 := by
  simp only [exOp, ho] at hx
  split at hx
  · rename_i ds s2 h1
    split at hx
    · rename_i cs s3 h2
      split at hx
      · rename_i f
        simp at hx
        obtain ⟨rfl, rfl⟩ := hx
        obtain ⟨G1, k1, k2, k3, k4, k5, _, k6⟩ := Zs6 _ h h1
        obtain ⟨G2, m1, m2, m3, m4, m5, _, m6⟩ := Zs6 _ k1 h2
        have hr : RelD w G2 (.func (.func f) (a.map (ev tm)) (c.map (ev tm))) (.func (.func f) ds cs) := by
          refine .func _ _ _ _ _ (by simpa using k5) (by simpa using m5) (fun i v d hi hd => ?_) (fun i v d hi hd => ?_)
          · simp at hi
            obtain ⟨x, hx1, rfl⟩ := hi
            exact (k6 i x d (by simpa using hx1) hd).1.mono m2.later
          · simp at hi
            obtain ⟨x, hx1, rfl⟩ := hi
            exact (m6 i x d (by simpa using hx1) hd).1
        have z : ∀ b, tokT b (.func (.func f) (a.map (ev tm)) (c.map (ev tm))) (.func (.func f) ds cs) = 0 := fun b => Zph rfl rfl hr
        refine ⟨w, G2, _, _, by simp [execOp, ho, Instr.makeFunc], .inl rfl, m1.dup hr z, (k2.trans m2).weaken (fun _ => Yab _) (fun b hb => ?_), m3.trans k3, m4.trans k4⟩
        have := (k2.trans m2).cnt b hb; have := z b
        simp only [cntS, sumZ] at *; omega
      · simp at hx
    · simp at hx
  · simp at hx
theorem op_makeMap (h : RelSt w G tm df pv pd s) {rest : List Oper} {o : Oper} {t : TypeId} {r : Option Operand} (ho : o.op = .makeMap t r) {d : D} {s1 : St} (hx : exOp P rest o s = some (.val d, s1)) : Ziv P w G tm df pv pd s o d s1 := by
  cases r with
  | some x => simp [exOp, ho] at hx
  | none =>
    simp only [exOp, ho] at hx
    simp at hx
    obtain ⟨rfl, rfl⟩ := hx
    obtain ⟨h1, h2⟩ := (h.dup (Zi6 w G) Zep).alloc (.map #[] 0)
    have hblk : (w.alloc (.map #[] 0)).heap[w.heap.size]? = some (.map #[] 0) := by rw [Zha, if_pos rfl]
    have hc0 : cntS (w.alloc (.map #[] 0)) G tm (undef :: pv) (Zaw :: pd) s w.heap.size = 0 := by
      by_cases h0 : 0 < cntS (w.alloc (.map #[] 0)) G tm (undef :: pv) (Zaw :: pd) s w.heap.size
      · obtain ⟨_, arr, e, fz, q⟩ := h1.cnt_lt h0
        rw [hblk] at q; cases q
      · omega
    obtain ⟨k3, k4, k5⟩ := h1.addObj (b := w.heap.size) (o := .map []) (by simp) (Zns h) (Zn1 h) hc0
      ⟨#[], 0, hblk, rfl, fun i m k d hi => by simp at hi⟩ (fun b' => by simp [Zg5]) (fun b' hb' e => by subst e; rw [hblk] at hb'; cases hb')
    refine ⟨_, _, _, _, by simp [execOp, ho, Instr.makeMap], .inl rfl, k3.dup (.map _ w.heap.size ?_) (fun b => rfl), ?_, rfl, rfl⟩
    · simp only; rw [← h.len, List.getElem?_append_right (Yab _)]; simp
    · refine ⟨h2.later.trans k5, h2.size, fun b hb => ?_, fun b _ _ _ j hs => hs, fun b hb _ _ => Zfw w _ hb, fun b hb => ?_, rfl, rfl⟩
      · simp only [List.mem_append, List.mem_singleton] at hb
        exact hb.imp id (fun e => .inl (by subst e; exact Yab _))
      · have q1 := k4 b
        have q2 := h2.cnt b hb
        have q3 : tokT b (.map (some w.heap.size)) (.map s.h.length) = 0 := rfl
        have q4 := Zep b
        simp only [cntS, sumZ] at q1 q2 ⊢
        omega
theorem Zoo {t t' : TypeId} {u : TypeDesc} {ok : Bool} {t2 : TypeId} {v : Value} (hu : P.underlying t = some u) (hi : Zk4 u = false) (w : World) :
    (t2 = t → (Instr.typeAssert (.iface t2 v) t' t ok).run P w = .ok (if ok then .tuple #[v, .bool true] else v) w) ∧
    (∀ z, t2 ≠ t → ok = true → (zeroValue t).run P w = .ok z w → (Instr.typeAssert (.iface t2 v) t' t ok).run P w = .ok (.tuple #[z, .bool false]) w) ∧
    (∀ z, ok = true → (zeroValue t).run P w = .ok z w → (Instr.typeAssert .nilIface t' t ok).run P w = .ok (.tuple #[z, .bool false]) w) := by
  refine ⟨fun h => ?_, fun z h1 h2 h3 => ?_, fun z h2 h3 => ?_⟩
  · subst h; cases u <;> simp_all [Zk4, Instr.typeAssert, run_underlying hu]
  · subst h2; cases u <;> simp_all [Zk4, Instr.typeAssert, run_underlying hu]
  · subst h2; cases u <;> simp_all [Zk4, Instr.typeAssert, run_underlying hu]
theorem Zpw {v : Value} {z : D} {b : Bool} (hz : RelD w G v z) : RelD w G (.tuple #[v, .bool b]) (.tup [z, .bool b]) := by
  refine .tup _ _ rfl (fun i v' d' hi hd => ?_)
  match i with
  | 0 => simp at hi hd; subst hi; subst hd; exact hz
  | 1 => simp at hi hd; subst hi; subst hd; exact .e _ _ (.bool _)
  | i + 2 => simp at hi
theorem Zpg {v : Value} {z : D} {b : Bool} (hz : ∀ b', tokA b' v z = 0) (b' : Nat) : tokT b' (.tuple #[v, .bool b]) (.tup [z, .bool b]) = 0 := by
  have := hz b'
  simp only [tokT, sumZ, this]
  rfl
theorem Zul {v : Value} {z : D} (h : ofV v = some z) (b : Nat) : tokA b v z = 0 := by
  rcases Zsp (w := default) (G := ⟨[], fun _ _ => False⟩) h with ⟨a, q, c⟩ | ⟨rfl, rfl⟩
  · rw [← Zh0 c]; exact Zhc a q
  · rfl
theorem Zvg (h : RelSt w G tm df pv pd s) {rest : List Oper} {o : Oper} {t t' : TypeId} {x : Operand} {ok : Bool} (ho : o.op = .typeAssert x t' t ok) {d : D} {s1 : St} (hx : exOp P rest o s = some (.val d, s1)) : Ziv P w G tm df pv pd s o d s1 := by
  simp only [exOp, ho] at hx
  split at hx
  · rename_i d0 u h1 hu
    have hr := Zh1 h h1
    split at hx
    · simp at hx
    · rename_i hi
      have hi' : Zk4 u = false := by simpa using hi
      split at hx
      · rename_i t2 v
        have e : ∃ u', ev tm x = .iface t2 u' ∧ RelE w G.S u' v := by
          have := Zg8 hr
          generalize ev tm x = V at this
          cases this; exact ⟨_, rfl, by assumption⟩
        obtain ⟨u', e1, e2⟩ := e
        obtain ⟨r1, r2, _⟩ := Zoo (P := P) (t' := t') (ok := ok) (t2 := t2) (v := u') hu hi' w
        split at hx
        · rename_i ht
          simp only [Option.some.injEq, Prod.mk.injEq, Out.val.injEq] at hx
          obtain ⟨rfl, rfl⟩ := hx
          have hrun : (execOp (ev tm) o).run P w = .ok (.value (if ok then .tuple #[u', .bool true] else u')) w := by simp [execOp, ho, e1, r1 ht]
          cases ok with
          | true => exact Zen h hrun (Zpw (.e _ _ e2)) (Zpg (fun b => by rw [Zkj rfl, Zme]))
          | false => exact Zen h hrun (.e _ _ e2) (fun b => by simp only [Bool.false_eq_true, if_false]; rw [Zda rfl, Zme])
        · rename_i ht
          split at hx
          · rename_i hok
            simp at hx
            obtain ⟨z, hz, rfl, rfl⟩ := hx
            obtain ⟨zv, q1, q2⟩ := Zjh hz w
            obtain ⟨k1, k2⟩ := Zjp (w := w) (G := G) q2
            exact Zen h (v := .tuple #[zv, .bool false]) (by simp [execOp, ho, e1, r2 zv ht hok q1]) (Zpw k1) (Zpg (Zul q2))
          · simp at hx
      · split at hx
        · rename_i hok
          simp at hx
          obtain ⟨z, hz, rfl, rfl⟩ := hx
          have e1 : ev tm x = .nilIface := by
            have := Zg8 hr
            generalize ev tm x = V at this
            cases this; rfl
          obtain ⟨_, _, r3⟩ := Zoo (P := P) (t' := t') (ok := ok) (t2 := 0) (v := undef) hu hi' w
          obtain ⟨zv, q1, q2⟩ := Zjh hz w
          obtain ⟨k1, k2⟩ := Zjp (w := w) (G := G) q2
          exact Zen h (v := .tuple #[zv, .bool false]) (by simp [execOp, ho, e1, r3 zv hok q1]) (Zpw k1) (Zpg (Zul q2))
        · simp at hx
      · simp at hx
  · simp at hx
theorem Znp {x : Value} {d : D} {y n : Nat} {code : BoundsCode} (hr : RelD w G x d) (hb : bnd d y = some n) (w' : World) : (Instr.sliceBound x y code).run P w' = .ok n w' ∧ n ≤ y := by
  unfold bnd at hb
  split at hb
  · rename_i k i
    have e := Zgb hr
    split at hb
    · rename_i h0
      simp at hb; subst hb
      exact ⟨by simp [Instr.sliceBound, e, asIntOf, h0], by omega⟩
    · simp at hb
  · simp at hb
theorem bnd_le {d : D} {y y' n : Nat} (h : bnd d y = some n) (hy : y ≤ y') : bnd d y' = some n := by
  unfold bnd at h ⊢
  split at h
  · split at h
    · rename_i h0; rw [if_pos ⟨h0.1, by omega⟩]; exact h
    · simp at h
  · simp at h
theorem Zve (h : RelSt w G tm df pv pd s) {x : Option Operand} {d : Option D} (hx : optO s x = some d) :
    (x = none ∧ d = none) ∨ ∃ y e, x = some y ∧ d = some e ∧ RelD w G (ev tm y) e := by
  cases x with
  | none => simp [optO] at hx; exact .inl ⟨rfl, hx.symm⟩
  | some y =>
    simp [optO] at hx
    obtain ⟨e, he, rfl⟩ := hx
    exact .inr ⟨y, e, rfl, rfl, Zh1 h he⟩
theorem Zth {b o cap sz l hh m : Nat} {es : List (List E)} (hlen : es.length ≤ cap) (h0 : 0 < sz ∨ es = []) (hsz : ∀ r ∈ es, r.length = sz) (hl : l ≤ hh) (hh1 : hh ≤ es.length) (hm : hh ≤ m) (hmc : m ≤ cap)
    (hrow : ∀ i r, es[i]? = some r → RowE w G.S b (o + i * sz) r) :
    ((es.take hh).drop l).length = hh - l ∧ (∀ r ∈ (es.take hh).drop l, r.length = sz) ∧
    ∀ i r, ((es.take hh).drop l)[i]? = some r → RowE w G.S b ((if m = l then o else o + l * sz) + i * sz) r := by
  refine ⟨by simp; omega, fun r hr => hsz r (List.mem_of_mem_take (List.mem_of_mem_drop hr)), fun i r hi => ?_⟩
  rw [List.getElem?_drop, List.getElem?_take] at hi
  split at hi
  · rename_i hlt
    rw [if_neg (by omega)]
    have := hrow _ r hi
    rwa [Nat.add_mul, ← Nat.add_assoc] at this
  · simp at hi
theorem op_slice (h : RelSt w G tm df pv pd s) {rest : List Oper} {o : Oper} {t : TypeId} {x : Operand} {lo hi mx : Option Operand} (ho : o.op = .slice t x lo hi mx) {d : D} {s1 : St} (hx : exOp P rest o s = some (.val d, s1)) : Ziv P w G tm df pv pd s o d s1 := by
  simp only [exOp, ho] at hx
  split at hx
  · rename_i d0 s2 h1
    split at hx
    · rename_i lo' hi' mx' hlo hhi hmx
      simp at hx
      obtain ⟨d', h3, rfl, rfl⟩ := hx
      refine Zl5 h h1 (fun G' hs hr => ?_)
      have hown := Zs8 h1
      have olo := Zve hs hlo
      have ohi := Zve hs hhi
      have omx := Zve hs hmx
      have hi_run : ∀ (y n : Nat) (code : BoundsCode) (dflt : Nat), bndO hi' dflt y = some n → (match hi with
            | some v => Instr.sliceBound (ev tm v) y code
            | none => (pure dflt : Sem Nat)).run P w = .ok n w ∧ (dflt ≤ y → n ≤ y) := by
        intro y n code dflt hb
        rcases ohi with ⟨rfl, rfl⟩ | ⟨v, e, rfl, rfl, r⟩
        · simp [bndO] at hb; subst hb; exact ⟨rfl, id⟩
        · simp only [bndO] at hb
          have := Znp (P := P) (code := code) r hb w
          exact ⟨this.1, fun _ => this.2⟩
      have lo_run : ∀ (y n : Nat) (code : BoundsCode), bndO lo' 0 y = some n → (match lo with
            | some v => Instr.sliceBound (ev tm v) y code
            | none => (pure 0 : Sem Nat)).run P w = .ok n w ∧ n ≤ y := by
        intro y n code hb
        rcases olo with ⟨rfl, rfl⟩ | ⟨v, e, rfl, rfl, r⟩
        · simp [bndO] at hb; subst hb; exact ⟨rfl, Nat.zero_le _⟩
        · simp only [bndO] at hb
          exact Znp r hb w
      unfold Zkv at h3
      split at h3
      · rename_i bs hu
        have e1 := Zk9 hr
        split at h3
        · simp at h3
        · rename_i hmn
          have hmx0 : mx = none := by
            rcases omx with ⟨a, b⟩ | ⟨v, e, a, b, _⟩
            · exact a
            · simp [b] at hmn
          subst hmx0
          split at h3
          · rename_i hh hb
            split at h3
            · rename_i l hb2
              simp at h3; subst h3
              obtain ⟨q1, q2⟩ := hi_run bs.size hh .sliceAlen bs.size hb
              obtain ⟨q3, q4⟩ := lo_run hh l .sliceB hb2
              refine ⟨.string (bs.extract l hh), ?_, .e _ _ (.str _), fun b => by rw [Zda rfl, Zme]⟩
              have e2 : (Instr.sliceBounds false bs.size bs.size (lo.map (ev tm)) (hi.map (ev tm)) none).run P w = .ok (l, hh, bs.size) w := by
                cases hi <;> cases lo <;> simp_all [Instr.sliceBounds]
              simp [execOp, ho, e1, Instr.sliceAt, Instr.slice, run_underlying hu, e2]
            · simp at h3
          · simp at h3
      · rename_i el x' hu
        split at h3
        · rename_i sz es hsz hes
          split at h3
          · rename_i hrows
            have hro : (∀ r ∈ es, r.length = sz) ∧ 0 < sz := by simpa [Zlm] using hrows
            have hv := Znl hr hown hes
            have hv' : ∃ (a : Option Addr) (cap : Nat), ev tm x = .slice a es.length cap ∧ es.length ≤ cap ∧
                ∀ (l hh m : Nat), l ≤ hh → hh ≤ es.length → hh ≤ m → m ≤ cap → ∀ (d : D), (d = .e (.sl ((es.take hh).drop l)) ∨ (d = .osl false true sz ((es.take hh).drop l) ∧ hh = m)) →
                  RelD w G' (.slice (if m = l then a else a.map (·.add (l * sz))) (hh - l) (m - l)) d := by
              rcases hv with ⟨rfl, e⟩ | ⟨b, o', cap, sz', e, k1, k2, k3, k4⟩
              · refine ⟨none, 0, e, Yab _, fun l hh m hl hh1 hm hm2 d hd => ?_⟩
                simp at hh1; subst hh1
                have : l = 0 := by omega
                subst this
                have : m = 0 := by omega
                subst this
                rcases hd with rfl | ⟨rfl, _⟩
                · exact .e _ _ .nilsl
                · exact .oslN _ _ _
              · refine ⟨some ⟨b, o', none⟩, cap, e, k1, fun l hh m hl hh1 hm hm2 d hd => ?_⟩
                have hs0 : es = [] ∨ sz' = sz := by
                  cases es with
                  | nil => exact .inl rfl
                  | cons r es => exact .inr ((k3 r (by simp)).symm.trans (hro.1 r (by simp)))
                obtain ⟨z1, z2, z3⟩ := Zth (m := m) k1 (.inl hro.2) hro.1 hl hh1 hm hm2 (fun i r hi => by
                  rcases hs0 with rfl | rfl
                  · simp at hi
                  · exact k4 i r hi)
                have ea : (if m = l then some (⟨b, o', none⟩ : Addr) else (some (⟨b, o', none⟩ : Addr)).map (·.add (l * sz))) = some ⟨b, if m = l then o' else o' + l * sz, none⟩ := by
                  split <;> simp [Addr.add_none]
                rw [ea]
                rcases hd with rfl | ⟨rfl, rfl⟩
                · have := RelE.of_rows (cap := m - l) (by rw [z1]; omega) hro.2 z2 z3
                  rw [z1] at this
                  exact .e _ _ this
                · exact .osl _ _ _ _ _ _ _ _ z1.symm (Yab _) (fun _ => rfl) (.inl hro.2) z2 (fun _ => z3)
            obtain ⟨a, cap, e1, k1, k2⟩ := hv'
            have fin : ∀ (l hh m : Nat), (Instr.sliceBounds true es.length cap (lo.map (ev tm)) (hi.map (ev tm)) (mx.map (ev tm))).run P w = .ok (l, hh, m) w → l ≤ hh → hh ≤ es.length → hh ≤ m → m ≤ cap →
                ∀ (d : D), (d = .e (.sl ((es.take hh).drop l)) ∨ (d = .osl false true sz ((es.take hh).drop l) ∧ hh = m)) → ∃ v, (execOp (ev tm) o).run P w = .ok (.value v) w ∧ RelD w G' v d ∧ ∀ b, tokT b v d = 0 := by
              intro l hh m hrun hl hh1 hm hm2 d hd
              refine ⟨_, ?_, k2 l hh m hl hh1 hm hm2 d hd, fun b => Zph (by rcases hd with rfl | ⟨rfl, _⟩ <;> rfl) (by rcases hd with rfl | ⟨rfl, _⟩ <;> rfl) (k2 l hh m hl hh1 hm hm2 d hd)⟩
              simp [execOp, ho, e1, Instr.sliceAt, Instr.slice, run_underlying hu, hrun, Zhe hsz]
            split at h3
            · have hmx0 : mx = none := by
                rcases omx with ⟨a, b⟩ | ⟨v, e, a, b, _⟩
                · exact a
                · simp at b
              subst hmx0
              split at h3
              · rename_i hh hb
                split at h3
                · rename_i l hb2
                  simp at h3; subst h3
                  obtain ⟨_, q2⟩ := hi_run es.length hh .sliceAcap es.length hb
                  have hb' : bndO hi' es.length cap = some hh := by
                    rcases ohi with ⟨rfl, rfl⟩ | ⟨v, e, rfl, rfl, r⟩
                    · exact hb
                    · exact bnd_le hb k1
                  obtain ⟨q1, _⟩ := hi_run cap hh .sliceAcap es.length hb'
                  obtain ⟨q3, q4⟩ := lo_run hh l .sliceB hb2
                  have q2' := q2 (Yab _)
                  refine fin l hh cap ?_ q4 q2' (by omega) (Yab _) _ (.inl rfl)
                  cases hi <;> cases lo <;> simp_all [Instr.sliceBounds]
                · simp at h3
              · simp at h3
            · rename_i m0 
              rcases omx with ⟨_, b⟩ | ⟨vm, em, rfl, eq1, rm⟩
              · simp at b
              · simp at eq1; subst eq1
                split at h3
                · rename_i m hbm
                  split at h3
                  · rename_i hh hb
                    split at h3
                    · rename_i l hb2
                      obtain ⟨q0, q0'⟩ := Znp (P := P) (code := .slice3Acap) rm (bnd_le hbm k1) w
                      obtain ⟨_, q00⟩ := Znp (P := P) (code := .slice3Acap) rm hbm w
                      rcases ohi with ⟨rfl, rfl⟩ | ⟨vh, eh, rfl, rfl, rh⟩
                      · simp at hb
                      simp only [Option.bind_some] at hb
                      obtain ⟨q1, q2'⟩ := Znp (P := P) (code := .slice3B) rh hb w
                      obtain ⟨q3, q4⟩ := lo_run hh l .slice3C hb2
                      refine fin l hh m ?_ q4 (by omega) q2' q0' _ ?_
                      · cases lo <;> simp_all [Instr.sliceBounds]
                      · split at h3
                        · rename_i he
                          simp at h3; exact .inr ⟨h3.symm, he⟩
                        · simp at h3; exact .inl h3.symm
                    · simp at h3
                  · simp at h3
                · simp at h3
          · simp at h3
        · simp at h3
      · simp at h3
    · simp at hx
  · simp at hx
end
end Go.Abs
namespace Go.Abs
section
variable {P : Program} {w : World} {G : Gh} {tm : List Value} {df : List Deferred} {pv : List Value} {pd : List D} {s : St}
theorem aggs_rel {v : Value} {d : D} {cs : List D} (h : RelD w G v d) (ha : aggs d = some cs) : cs.any own0 = false ∧ ∃ vs : Array Value, v = .agg vs ∧ vs.size = cs.length ∧ (∀ v ∈ vs.toList, v.oneCell' = true) ∧ ∀ (i : Nat) v d, vs[i]? = some v → cs[i]? = some d → RelD w G v d := by
  unfold aggs at ha
  split at ha
  · split at ha
    · simp at ha
    · rename_i h1
      simp at ha; subst ha
      exact ⟨by simpa using h1, Zly h⟩
  · simp at ha
theorem run_eqF {n : Nat} (ih : ∀ (t : TypeId) (x y : D) (b : Bool), eqT P n t x y = some b → ∀ (vx vy : Value), RelD w G vx x → RelD w G vy y → ∀ d, n ≤ d → (Op.equalIn d t vx vy).run P w = .ok b w)
    {xs ys : List D} {us vs : Array Value} (o1 : xs.any own0 = false) (o2 : ys.any own0 = false)
    (k1 : us.size = xs.length) (k2 : ∀ v ∈ us.toList, v.oneCell' = true) (k3 : ∀ (i : Nat) v d, us[i]? = some v → xs[i]? = some d → RelD w G v d)
    (m1 : vs.size = ys.length) (m2 : ∀ v ∈ vs.toList, v.oneCell' = true) (m3 : ∀ (i : Nat) v d, vs[i]? = some v → ys[i]? = some d → RelD w G v d) {d : Nat} (hd : n ≤ d) :
    ∀ (l : List Field) (b : Bool), eqT.eqF P n l xs ys = some b → (Op.eqFields d us vs l).run P w = .ok b w := by
  intro l
  induction l with
  | nil =>
    intro b h
    rw [eqT.eqF] at h
    simp at h; subst h
    simp [Op.eqFields]
  | cons f l ihl =>
    intro b h
    rw [eqT.eqF] at h
    split at h
    · simp at h
    · rename_i hn
      split at h
      · rename_i a c ha hc
        split at h
        · rename_i p q hp hq
          simp at h
          obtain ⟨va, r1, r2, _⟩ := Zro (w := w) (G := G) k1 k2 k3 ha o1
          obtain ⟨vc, r3, r4, _⟩ := Zro (w := w) (G := G) m1 m2 m3 hc o2
          have e1 := ih f.type a c p hp va vc r2 r4 d hd
          have e2 := ihl q hq
          subst h
          cases p
          · simp [Op.eqFields, hn, r1, r3, e1]
          · simp [Op.eqFields, hn, r1, r3, e1, e2]
        · simp at h
      · simp at h
theorem Zur : ∀ (n : Nat) (t : TypeId) (x y : D) (b : Bool), eqT P n t x y = some b → ∀ (vx vy : Value), RelD w G vx x → RelD w G vy y → ∀ d, n ≤ d → (Op.equalIn d t vx vy).run P w = .ok b w := by
  intro n
  induction n with
  | zero => intro t x y b h; simp [eqT] at h
  | succ n ih =>
    intro t x y b h vx vy hx hy d hd
    obtain ⟨d, rfl⟩ : ∃ e, d = e + 1 := ⟨d - 1, by omega⟩
    rw [eqT] at h
    split at h
    · rename_i hu
      unfold eqB at h
      split at h
      · have e1 := Ziz hx; have e2 := Ziz hy
        simp at h; subst h
        simp [Op.equalIn, run_underlying hu, e1, e2]
      · simp at h
    · rename_i k hu
      unfold eqI at h
      split at h
      · have e1 := Zgb hx; have e2 := Zgb hy
        split at h
        · rename_i hk
          simp at h; subst h; subst hk
          simp [Op.equalIn, run_underlying hu, e1, e2]
        · simp at h
      · simp at h
    · rename_i hu
      unfold eqS at h
      split at h
      · have e1 := Zk9 hx; have e2 := Zk9 hy
        simp at h; subst h
        simp [Op.equalIn, run_underlying hu, e1, e2]
      · simp at h
    · rename_i fs hu
      split at h
      · simp at h
      · rename_i hst
        split at h
        · rename_i xs ys ha hb
          obtain ⟨o1, us, rfl, k1, k2, k3⟩ := aggs_rel hx ha
          obtain ⟨o2, vs, rfl, m1, m2, m3⟩ := aggs_rel hy hb
          have hf : P.fieldsOf t = fs := by simp [Program.fieldsOf, hu]
          rw [run_equalIn_struct w d t us vs (by rw [hf]; exact hu) (by simpa using hst), hf]
          exact run_eqF ih o1 o2 k1 k2 k3 m1 m2 m3 (by omega) _ _ h
        · simp at h
    · simp at h
theorem Ztt {t : TypeId} {x y : D} {b : Bool} (h : Zmi P t x y = some b) {vx vy : Value} (hx : RelD w G vx x) (hc : ofV vy = some y) (d : Nat) : (Op.equalIn (d + 1) t vx vy).run P w = .ok b w := by
  have hy := (Zjp (w := w) (G := G) hc).1
  unfold Zmi at h
  split at h
  all_goals first | (simp at h; done) | skip
  all_goals rename_i hu
  all_goals try (simp at h; subst h)
  · cases Zg8 hx; cases Zg8 hy; simp [Op.equalIn, run_underlying hu]
  · cases hx; cases Zg8 hy; simp [Op.equalIn, run_underlying hu]
  · cases hx; cases Zg8 hy; simp [Op.equalIn, run_underlying hu]
  · cases Zg8 hx; cases Zg8 hy; simp [Op.equalIn, run_underlying hu]
  · cases hx <;> (cases Zg8 hy; simp [Op.equalIn, run_underlying hu])
  · cases Zg8 hx; cases Zg8 hy; simp [Op.equalIn, run_underlying hu]
  · cases hx; cases Zg8 hy; simp [Op.equalIn, run_underlying hu]
  · cases Zg8 hx; cases Zg8 hy; simp [Op.equalIn, run_underlying hu]
  · cases Zg8 hx; cases Zg8 hy; simp [Op.equalIn, run_underlying hu]
  · cases hx; cases Zg8 hy; simp [Op.equalIn, run_underlying hu]
  · split at h
    · rename_i hs
      simp at h; subst h
      have e1 : ∃ a n c, vx = .slice (some a) n c := by
        unfold slOf at hs
        split at hs
        · simp at hs; subst hs
          rcases (Zg8 hx).rows with ⟨a, _⟩ | ⟨b, o, cap, sz, h1, _⟩
          · simp at a
          · exact ⟨_, _, _, h1⟩
        · simp at hs; subst hs
          cases hx; exact ⟨_, _, _, rfl⟩
        · simp at hs
      obtain ⟨a, n, c, rfl⟩ := e1
      have e2 : ∃ n c, vy = .slice none n c := by
        unfold ofV at hc
        split at hc
        · simp at hc
        · split at hc <;> simp at hc
        · unfold ofV1 at hc
          split at hc
          · exact ⟨_, _, rfl⟩
          · simp at hc
      obtain ⟨n', c', rfl⟩ := e2
      simp [Op.equalIn, run_underlying hu]
    · simp at h
theorem Zuc {op : BinOp} (ho : op = .eql ∨ op = .neq) {t : TypeId} {x y : Operand} {a b : Value} (h : a.oneCell' = true) (h2 : a ≠ .nilIface ∨ (∃ v, y = .const v)) : (eqGuard op t x y a b).run P w = .ok () w := by
  unfold eqGuard
  rcases ho with rfl | rfl <;>
  · simp only [Bool.not_true, Bool.false_eq_true, if_false]
    split
    · rcases h2 with h2 | ⟨v, rfl⟩
      · exact absurd rfl h2
      · simp
    · simp [Value.oneCell'] at h
    · rfl
theorem Zhr {op : BinOp} {t : TypeId} {x y : Operand} {a b : Value} (h : a.oneCell' = true) (h2 : a ≠ .nilIface ∨ (∃ v, y = .const v)) : (eqGuard op t x y a b).run P w = .ok () w := by
  cases op <;> first | exact Zuc (.inl rfl) h h2 | exact Zuc (.inr rfl) h h2 | (unfold eqGuard; simp; done)
theorem run_arith {op : BinOp} {k : IntKind} {a b : Int} {d : D} (h : Ziu op k a b = some d) (t : TypeId) : ∃ v, (binOp op t (.int k a) (.int k b)).run P w = .ok v w ∧ RelD w G v d ∧ ∀ b, tokT b v d = 0 := by
  have fin : ∀ {v : Value} {x : E}, RelE w G.S v x → RelD w G v (.e x) ∧ ∀ b, tokT b v (.e x) = 0 := fun hx => ⟨.e _ _ hx, fun b => by rw [Zda rfl, Zme]⟩
  unfold Ziu at h
  split at h
  case h_4 => split at h <;> simp at h; subst h; exact ⟨_, by simp [binOp, Op.intDiv, *], (fin (.int _ _)).1, (fin (.int _ _)).2⟩
  case h_5 => split at h <;> simp at h; subst h; exact ⟨_, by simp [binOp, Op.intDiv, *], (fin (.int _ _)).1, (fin (.int _ _)).2⟩
  all_goals first
    | (simp at h; done)
    | (simp only [Option.some.injEq] at h; subst h; exact ⟨_, by simp only [binOp, Op.intArith, Op.intBits, Op.intCmp, ne_eq, not_true_eq_false, if_false]; rfl, (fin (by first | exact .int _ _ | exact .bool _)).1, (fin (by first | exact .int _ _ | exact .bool _)).2⟩)
theorem run_strD {op : BinOp} {a b : ByteArray} {d : D} (h : strD op a b = some d) (t : TypeId) : ∃ v, (binOp op t (.string a) (.string b)).run P w = .ok v w ∧ RelD w G v d ∧ ∀ b, tokT b v d = 0 := by
  have fin : ∀ {v : Value} {x : E}, RelE w G.S v x → RelD w G v (.e x) ∧ ∀ b, tokT b v (.e x) = 0 := fun hx => ⟨.e _ _ hx, fun b => by rw [Zda rfl, Zme]⟩
  unfold strD at h
  split at h
  case h_1 =>
    split at h
    · rename_i hs
      simp at h; subst h
      refine ⟨.string (a ++ b), ?_, (fin (.str _)).1, (fin (.str _)).2⟩
      have : ¬ ((a.size + b.size : Nat) : Int) > IntKind.i64.max := by
        have : IntKind.i64.max = 9223372036854775807 := by decide
        rw [this]; omega
      simp only [binOp, Op.stringOp]
      rw [if_neg this]; rfl
    · simp at h
  all_goals first
    | (simp at h; done)
    | (simp only [Option.some.injEq] at h; subst h; exact ⟨_, by simp only [binOp, Op.stringOp, ← beq_toListBytes]; rfl, (fin (.bool _)).1, (fin (.bool _)).2⟩)
def plainV : Value → Bool
  | .int _ _ | .float _ _ | .complex _ _ _ | .string _ | .agg _ | .tuple _ => false
  | _ => true
theorem Zts {v : Value} {d : D} {es : List (List E)} (h : RelD w G v d) (hs : slOf d = some es) : ∃ a n c, v = .slice a n c := by
  unfold slOf at hs
  split at hs
  · simp at hs; subst hs
    rcases (Zg8 h).rows with ⟨_, a⟩ | ⟨b, o, cap, sz, h1, _⟩
    · exact ⟨_, _, _, a⟩
    · exact ⟨_, _, _, h1⟩
  · cases h <;> exact ⟨_, _, _, rfl⟩
  · simp at hs
theorem Znu {t : TypeId} {x y : D} {b : Bool} (h : Zmi P t x y = some b) {vx : Value} (hx : RelD w G vx x) : plainV vx = true := by
  unfold Zmi at h
  split at h
  · cases Zg8 hx; rfl
  · cases hx; rfl
  · cases hx; rfl
  · cases Zg8 hx; rfl
  · cases hx <;> rfl
  · cases Zg8 hx; rfl
  · cases hx; rfl
  · cases Zg8 hx; rfl
  · cases Zg8 hx; rfl
  · cases hx; rfl
  · split at h
    · rename_i hs
      obtain ⟨a, n, c, rfl⟩ := Zts hx hs
      rfl
    · simp at h
  · simp at h
theorem Zu1 {t : TypeId} {x y : D} {b : Bool} (h : Zmi P t x y = some b) {vx : Value} (hx : RelD w G vx x) : vx.oneCell' = true := by
  have := Znu h hx
  cases vx <;> first | rfl | (simp [plainV] at this; done)
theorem Zvl {t : TypeId} {x y : D} {b : Bool} (h : Zmi P t x y = some b) {vx : Value} (vy : Value) (hx : RelD w G vx x) :
    binOp .eql t vx vy = (do pure (.bool (← Op.equal t vx vy))) := by
  have := Znu h hx
  cases vx <;> first | (simp [plainV] at this; done) | (cases vy <;> rfl)
theorem Zvk {t : TypeId} {x y : D} {b : Bool} (h : Zmi P t x y = some b) {vx : Value} (vy : Value) (hx : RelD w G vx x) :
    binOp .neq t vx vy = (do pure (.bool (!(← Op.equal t vx vy)))) := by
  have := Znu h hx
  cases vx <;> first | (simp [plainV] at this; done) | (cases vy <;> rfl)
theorem op_binOp (h : RelSt w G tm df pv pd s) {rest : List Oper} {o : Oper} {op : BinOp} {t t' : TypeId} {x y : Operand} (ho : o.op = .binOp op t x y t') {d : D} {s1 : St} (hx : exOp P rest o s = some (.val d, s1)) : Ziv P w G tm df pv pd s o d s1 := by
  have fin : ∀ {v : Value} {x : E}, RelE w G.S v x → RelD w G v (.e x) ∧ ∀ b, tokT b v (.e x) = 0 := fun hx => ⟨.e _ _ hx, fun b => by rw [Zda rfl, Zme]⟩
  simp only [exOp, ho] at hx
  split at hx
  · rename_i a c ha hc
    simp at hx
    obtain ⟨d', hb, rfl, rfl⟩ := hx
    have ra := Zh1 h ha
    have rc := Zh1 h hc
    have done : ∀ {v : Value}, (eqGuard op t x y (ev tm x) (ev tm y)).run P w = .ok () w → (binOp op t (ev tm x) (ev tm y)).run P w = .ok v w → RelD w G v d' → (∀ b, tokT b v d' = 0) → Ziv P w G tm df pv pd s o d' s :=
      fun h1 h2 h3 h4 => Zen h (by simp [execOp, ho, h1, h2]) h3 h4
    have hcst : Region.isConst y = true → ∃ v, y = .const v := by cases y <;> simp [Region.isConst]
    generalize Region.isConst y = yc at hb hcst
    have hcv : ∀ v, y = .const v → ofV v = some c ∧ ev tm y = v := by rintro v rfl; exact ⟨hc, rfl⟩
    unfold binD at hb
    split at hb
    · rename_i k i k' j
      have e1 := Zgb ra; have e2 := Zgb rc
      unfold Zom at hb
      split at hb
      · simp at hb
      · rename_i hj
        simp at hb; subst hb
        refine done (Zhr (by rw [e1]; rfl) (.inl (by rw [e1]; simp))) ?_ (fin (.int _ _)).1 (fin (.int _ _)).2
        simp [e1, e2, binOp, Op.shift, hj]
    · rename_i k i k' j
      have e1 := Zgb ra; have e2 := Zgb rc
      unfold Zom at hb
      split at hb
      · simp at hb
      · rename_i hj
        simp at hb; subst hb
        refine done (Zhr (by rw [e1]; rfl) (.inl (by rw [e1]; simp))) ?_ (fin (.int _ _)).1 (fin (.int _ _)).2
        simp [e1, e2, binOp, Op.shift, hj]
    · rename_i k i k' j _ _
      have e1 := Zgb ra; have e2 := Zgb rc
      split at hb
      · rename_i hk
        subst hk
        obtain ⟨v, q1, q2, q3⟩ := run_arith (P := P) (w := w) (G := G) hb t
        exact done (Zhr (by rw [e1]; rfl) (.inl (by rw [e1]; simp))) (by rw [e1, e2]; exact q1) q2 q3
      · simp at hb
    · rename_i b1 b2
      have e1 := Zk9 ra; have e2 := Zk9 rc
      obtain ⟨v, q1, q2, q3⟩ := run_strD (P := P) (w := w) (G := G) hb t
      exact done (Zhr (by rw [e1]; rfl) (.inl (by rw [e1]; simp))) (by rw [e1, e2]; exact q1) q2 q3
    · rename_i b1 b2
      have e1 := Ziz ra; have e2 := Ziz rc
      obtain ⟨b, hb1, rfl⟩ := Option.map_eq_some_iff.1 hb
      have := Zur (P := P) 100 t _ _ b hb1 _ _ ra rc 10000 (by omega)
      rw [e1, e2] at this
      exact done (v := .bool b) (Zhr (by rw [e1]; rfl) (.inl (by rw [e1]; simp))) (by rw [e1, e2]; simp only [binOp, Op.equal, Op.maxDepth, Sem.run_bind, this, Result.andThen_ok, Sem.run_pure]) (fin (.bool _)).1 (fin (.bool _)).2
    · rename_i b1 b2
      have e1 := Ziz ra; have e2 := Ziz rc
      obtain ⟨b, hb1, rfl⟩ := Option.map_eq_some_iff.1 hb
      have := Zur (P := P) 100 t _ _ b hb1 _ _ ra rc 10000 (by omega)
      rw [e1, e2] at this
      exact done (v := .bool (!b)) (Zhr (by rw [e1]; rfl) (.inl (by rw [e1]; simp))) (by rw [e1, e2]; simp only [binOp, Op.equal, Op.maxDepth, Sem.run_bind, this, Result.andThen_ok, Sem.run_pure]) (fin (.bool _)).1 (fin (.bool _)).2
    · rename_i xs ys
      split at hb
      · simp at hb
      · rename_i hg
        obtain ⟨b, hb1, rfl⟩ := Option.map_eq_some_iff.1 hb
        obtain ⟨us, e1, _⟩ := Zly ra; obtain ⟨vs, e2, _⟩ := Zly rc
        have := Zur (P := P) 100 t _ _ b hb1 _ _ ra rc 10000 (by omega)
        rw [e1, e2] at this
        exact done (v := .bool b) (by rw [e1, e2]; simp [eqGuard, hg]) (by rw [e1, e2]; simp only [binOp, Op.equal, Op.maxDepth, Sem.run_bind, this, Result.andThen_ok, Sem.run_pure]) (fin (.bool _)).1 (fin (.bool _)).2
    · rename_i xs ys
      split at hb
      · simp at hb
      · rename_i hg
        obtain ⟨b, hb1, rfl⟩ := Option.map_eq_some_iff.1 hb
        obtain ⟨us, e1, _⟩ := Zly ra; obtain ⟨vs, e2, _⟩ := Zly rc
        have := Zur (P := P) 100 t _ _ b hb1 _ _ ra rc 10000 (by omega)
        rw [e1, e2] at this
        exact done (v := .bool (!b)) (by rw [e1, e2]; simp [eqGuard, hg]) (by rw [e1, e2]; simp only [binOp, Op.equal, Op.maxDepth, Sem.run_bind, this, Result.andThen_ok, Sem.run_pure]) (fin (.bool _)).1 (fin (.bool _)).2
    · rename_i hn1 hn2 hn3
      split at hb
      · rename_i hyc
        obtain ⟨b, hb1, rfl⟩ := Option.map_eq_some_iff.1 hb
        obtain ⟨v, hv⟩ := hcst hyc
        obtain ⟨hcv, hev⟩ := hcv v hv
        have := Ztt (P := P) hb1 ra hcv 9999
        exact done (v := .bool b) (Zhr (Zu1 hb1 ra) (.inr ⟨v, hv⟩)) (by
          rw [Zvl hb1 _ ra, hev]
          simp only [Op.equal, Op.maxDepth, Sem.run_bind, this, Result.andThen_ok, Sem.run_pure]) (fin (.bool _)).1 (fin (.bool _)).2
      · simp at hb
    · rename_i hn1 hn2 hn3
      split at hb
      · rename_i hyc
        obtain ⟨b, hb1, rfl⟩ := Option.map_eq_some_iff.1 hb
        obtain ⟨v, hv⟩ := hcst hyc
        obtain ⟨hcv, hev⟩ := hcv v hv
        have := Ztt (P := P) hb1 ra hcv 9999
        exact done (v := .bool (!b)) (Zhr (Zu1 hb1 ra) (.inr ⟨v, hv⟩)) (by
          rw [Zvk hb1 _ ra, hev]
          simp only [Op.equal, Op.maxDepth, Sem.run_bind, this, Result.andThen_ok, Sem.run_pure]) (fin (.bool _)).1 (fin (.bool _)).2
      · simp at hb
    · simp at hb
  · simp at hx
end
end Go.Abs
