/-
  WHAT THE ABSTRACT STATE SAYS OF THE MODEL's: values, sealed cells, objects, and who owns which block. STEPS OF THE RELATION THAT CHANGE NO MEMORY: take, put, drop, seal. No condition.
-/
import Derived.Test.YtkimilghfbgjmaaQ00
import Derived.Laws.World
import Derived.Laws.Cells
import Derived.Laws.IdiomCopy

open List renaming getD → Ya3, getElem?_eq_getElem → Ya4, getElem?_eq_none → Ya5, set_eq_of_length_le → Ya6
namespace Go.Abs
inductive RelE (w : World) (S : Nat → Nat → Prop) : Value → E → Prop where
  | bool (b : Bool) : RelE w S (.bool b) (.bool b)
  | int (k : IntKind) (n : Int) : RelE w S (.int k n) (.int k n)
  | str (s : ByteArray) : RelE w S (.string s) (.str s)
  | nilptr : RelE w S (.pointer none) .nilptr
  | nilmap : RelE w S (.map none) .nilmap
  | nilfn : RelE w S .nilFunc .nilfn
  | nilif : RelE w S .nilIface .nilif
  | nilsl : RelE w S (.slice none 0 0) (.sl [])
  | sl (b o n cap sz : Nat) (es : List (List E)) (vs : Nat → Value) (hn : n = es.length) (hc : n ≤ cap) (h0 : 0 < sz) (hsz : ∀ r ∈ es, r.length = sz)
      (hS : ∀ i r j x, es[i]? = some r → r[j]? = some x → S b (o + i * sz + j) ∧ w.cell? ⟨b, o + i * sz + j, none⟩ = some (vs (o + i * sz + j)))
      (hr : ∀ i r j x, es[i]? = some r → r[j]? = some x → RelE w S (vs (o + i * sz + j)) x) : RelE w S (.slice (some ⟨b, o, none⟩) n cap) (.sl es)
  | iface (t : TypeId) (v : Value) (x : E) (h : RelE w S v x) : RelE w S (.iface t v) (.iface t x)
def RowE (w : World) (S : Nat → Nat → Prop) (b o : Nat) (xs : List E) : Prop :=
  ∀ j x, xs[j]? = some x → S b (o + j) ∧ ∃ v, w.cell? ⟨b, o + j, none⟩ = some v ∧ RelE w S v x
theorem RelE.mono {w w' : World} {S S' : Nat → Nat → Prop} {v : Value} {x : E} (h : RelE w S v x) (hS : ∀ b j, S b j → S' b j)
    (hw : ∀ b j, S b j → w'.cell? ⟨b, j, none⟩ = w.cell? ⟨b, j, none⟩) : RelE w' S' v x := by
  induction h with
  | bool b => exact .bool b
  | int k n => exact .int k n
  | str s => exact .str s
  | nilptr => exact .nilptr
  | nilmap => exact .nilmap
  | nilfn => exact .nilfn
  | nilif => exact .nilif
  | nilsl => exact .nilsl
  | sl b o n cap sz es vs hn hc h0 hsz hS' _ ih =>
    exact .sl b o n cap sz es vs hn hc h0 hsz (fun i r j x hi hj => ⟨hS _ _ (hS' i r j x hi hj).1, (hw _ _ (hS' i r j x hi hj).1).trans (hS' i r j x hi hj).2⟩) (fun i r j x hi hj => ih i r j x hi hj)
  | iface t v x _ ih => exact .iface t v x ih
theorem RowE.mono {w w' : World} {S S' : Nat → Nat → Prop} {b o : Nat} {xs : List E} (h : RowE w S b o xs) (hS : ∀ b j, S b j → S' b j)
    (hw : ∀ b j, S b j → w'.cell? ⟨b, j, none⟩ = w.cell? ⟨b, j, none⟩) : RowE w' S' b o xs := by
  intro j x hj
  obtain ⟨h1, v, h2, h3⟩ := h j x hj
  exact ⟨hS _ _ h1, v, (hw _ _ h1).trans h2, h3.mono hS hw⟩
theorem RelE.one {w : World} {S : Nat → Nat → Prop} {v : Value} {x : E} (h : RelE w S v x) : v.oneCell' = true := by
  cases h <;> rfl
theorem RelE.of_rows {w : World} {S : Nat → Nat → Prop} {b o cap sz : Nat} {es : List (List E)} (hc : es.length ≤ cap) (h0 : 0 < sz) (hsz : ∀ r ∈ es, r.length = sz)
    (h : ∀ i r, es[i]? = some r → RowE w S b (o + i * sz) r) : RelE w S (.slice (some ⟨b, o, none⟩) es.length cap) (.sl es) := by
  refine .sl b o es.length cap sz es (fun k => (w.cell? ⟨b, k, none⟩).getD undef) rfl hc h0 hsz ?_ ?_
  · intro i r j x hi hj
    obtain ⟨h1, v, h2, _⟩ := h i r hi j x hj
    exact ⟨h1, by rw [h2]; rfl⟩
  · intro i r j x hi hj
    obtain ⟨h1, v, h2, h3⟩ := h i r hi j x hj
    simp only [h2, Option.getD_some]
    exact h3
theorem RelE.rows {w : World} {S : Nat → Nat → Prop} {v : Value} {es : List (List E)} (h : RelE w S v (.sl es)) :
    (es = [] ∧ v = .slice none 0 0) ∨ ∃ b o cap sz, v = .slice (some ⟨b, o, none⟩) es.length cap ∧ es.length ≤ cap ∧ 0 < sz ∧ (∀ r ∈ es, r.length = sz) ∧ ∀ i r, es[i]? = some r → RowE w S b (o + i * sz) r := by
  cases h with
  | nilsl => exact .inl ⟨rfl, rfl⟩
  | sl b o n cap sz es vs hn hc h0 hsz hS hr =>
    subst hn
    exact .inr ⟨b, o, cap, sz, rfl, hc, h0, hsz, fun i r hi j x hj => ⟨(hS i r j x hi hj).1, _, (hS i r j x hi hj).2, hr i r j x hi hj⟩⟩
structure Gh where
  ob : List Nat
  S : Nat → Nat → Prop
inductive RelD (w : World) (G : Gh) : Value → D → Prop where
  | e (v : Value) (x : E) (h : RelE w G.S v x) : RelD w G v (.e x)
  | oslN (ex fu : Bool) (sz : Nat) : RelD w G (.slice none 0 0) (.osl ex fu sz [])
  | osl (b o n cap sz : Nat) (es : List (List E)) (ex fu : Bool) (hn : n = es.length) (hc : n ≤ cap) (hfu : fu = true → cap = n) (h0 : 0 < sz ∨ (es = [] ∧ cap = 0)) (hsz : ∀ r ∈ es, r.length = sz)
      (hs : ex = false → ∀ i r, es[i]? = some r → RowE w G.S b (o + i * sz) r) : RelD w G (.slice (some ⟨b, o, none⟩) n cap) (.osl ex fu sz es)
  | hdr (a : Option Addr) (n cap : Nat) : RelD w G (.slice a n cap) (.hdr n)
  | ptr (i off b : Nat) (h : G.ob[i]? = some b) : RelD w G (.pointer (some ⟨b, off, none⟩)) (.ptr i off)
  | rptr (b o off : Nat) (cs : List E) (h : RowE w G.S b o cs) : RelD w G (.pointer (some ⟨b, o + off, none⟩)) (.rptr cs off)
  | asl (i off len cap b : Nat) (h : G.ob[i]? = some b) (hc : len ≤ cap) : RelD w G (.slice (some ⟨b, off, none⟩) len cap) (.asl i off len)
  | map (i b : Nat) (h : G.ob[i]? = some b) : RelD w G (.map (some b)) (.map i)
  | func (f : FuncId) (vs us : Array Value) (ds cs : List D) (h1 : vs.size = ds.length) (h2 : us.size = cs.length)
      (hd : ∀ (i : Nat) v d, vs[i]? = some v → ds[i]? = some d → RelD w G v d) (hc : ∀ (i : Nat) v d, us[i]? = some v → cs[i]? = some d → RelD w G v d) :
      RelD w G (.func (.func f) vs us) (.func (.func f) ds cs)
  | yield (l b : Nat) (h : G.ob[l]? = some b) : RelD w G (.func (.yield b) #[] #[]) (.func (.yield l) [] [])
  | iface (t : TypeId) (v : Value) (d : D) (h : RelD w G v d) : RelD w G (.iface t v) (.iface t d)
  | agg (vs : Array Value) (ds : List D) (h1 : vs.size = ds.length) (ho : ∀ v ∈ vs.toList, v.oneCell' = true)
      (hd : ∀ (i : Nat) v d, vs[i]? = some v → ds[i]? = some d → RelD w G v d) : RelD w G (.agg vs) (.agg ds)
  | tup (vs : Array Value) (ds : List D) (h1 : vs.size = ds.length)
      (hd : ∀ (i : Nat) v d, vs[i]? = some v → ds[i]? = some d → RelD w G v d) : RelD w G (.tuple vs) (.tup ds)
structure Later (w : World) (G : Gh) (w' : World) (G' : Gh) : Prop where
  ob : ∀ (i b : Nat), G.ob[i]? = some b → G'.ob[i]? = some b
  S : ∀ b j, G.S b j → G'.S b j
  cell : ∀ b j, G.S b j → w'.cell? ⟨b, j, none⟩ = w.cell? ⟨b, j, none⟩
theorem Later.refl (w : World) (G : Gh) : Later w G w G := ⟨fun _ _ h => h, fun _ _ h => h, fun _ _ _ => rfl⟩
theorem Later.trans {w w1 w2 : World} {G G1 G2 : Gh} (h : Later w G w1 G1) (k : Later w1 G1 w2 G2) : Later w G w2 G2 :=
  ⟨fun i b hi => k.ob i b (h.ob i b hi), fun b j hs => k.S b j (h.S b j hs), fun b j hs => (k.cell b j (h.S b j hs)).trans (h.cell b j hs)⟩
theorem RelD.mono {w w' : World} {G G' : Gh} {v : Value} {d : D} (h : RelD w G v d) (k : Later w G w' G') : RelD w' G' v d := by
  induction h with
  | e v x h => exact .e v x (h.mono k.S k.cell)
  | oslN ex fu sz => exact .oslN ex fu sz
  | osl b o n cap sz es ex fu hn hc hfu h0 hsz hs => exact .osl b o n cap sz es ex fu hn hc hfu h0 hsz (fun hx i r hi => (hs hx i r hi).mono k.S k.cell)
  | hdr a n cap => exact .hdr a n cap
  | ptr i off b h => exact .ptr i off b (k.ob i b h)
  | rptr b o off cs h => exact .rptr b o off cs (h.mono k.S k.cell)
  | asl i off len cap b h hc => exact .asl i off len cap b (k.ob i b h) hc
  | map i b h => exact .map i b (k.ob i b h)
  | func f vs us ds cs h1 h2 _ _ ihd ihc => exact .func f vs us ds cs h1 h2 ihd ihc
  | yield l b h => exact .yield l b (k.ob l b h)
  | iface t v d _ ih => exact .iface t v d ih
  | agg vs ds h1 ho _ ih => exact .agg vs ds h1 ho ih
  | tup vs ds h1 _ ih => exact .tup vs ds h1 ih
def sumZ (f : Value → D → Nat) : List Value → List D → Nat
  | v :: vs, d :: ds => f v d + sumZ f vs ds
  | _, _ => 0
theorem Zri (f : Value → D → Nat) : ∀ (vs : List Value) (ds : List D) (i : Nat) (v : Value) (d : D) (v0 : Value) (d0 : D), vs[i]? = some v0 → ds[i]? = some d0 →
    sumZ f (vs.set i v) (ds.set i d) + f v0 d0 = sumZ f vs ds + f v d
  | [], _, _, _, _, _, _, h, _ => by simp at h
  | _ :: _, [], _, _, _, _, _, _, h => by simp at h
  | a :: vs, b :: ds, 0, v, d, v0, d0, h, h' => by
    simp at h h'; subst h; subst h'
    simp [sumZ]; omega
  | a :: vs, b :: ds, i + 1, v, d, v0, d0, h, h' => by
    have := Zri f vs ds i v d v0 d0 (by simpa using h) (by simpa using h')
    simp [sumZ]; omega
theorem Zpn (f : Value → D → Nat) (vs : List Value) (ds : List D) (i : Nat) (d : D) (v0 : Value) (d0 : D) (h : vs[i]? = some v0) (h' : ds[i]? = some d0) :
    sumZ f vs (ds.set i d) + f v0 d0 = sumZ f vs ds + f v0 d := by
  have := Zri f vs ds i v0 d v0 d0 h h'
  rwa [show vs.set i v0 = vs from by
    apply List.ext_getElem?; intro k
    by_cases e : i = k
    · subst e; rw [List.getElem?_set]; simp [h]; exact (List.getElem?_eq_some_iff.1 h).1
    · rw [List.getElem?_set_ne e]] at this
theorem Zgo (f : Value → D → Nat) : ∀ (vs us : List Value) (ds cs : List D), vs.length = ds.length → sumZ f (vs ++ us) (ds ++ cs) = sumZ f vs ds + sumZ f us cs
  | [], _, [], _, _ => by simp [sumZ]
  | [], _, _ :: _, _, h => by simp at h
  | _ :: _, _, [], _, h => by simp at h
  | v :: vs, us, d :: ds, cs, h => by
    have := Zgo f vs us ds cs (by simpa using h)
    simp [sumZ, this]; omega
theorem Zjk (f : Value → D → Nat) : ∀ (vs : List Value) (ds : List D) (i : Nat) (v : Value) (d : D), vs[i]? = some v → ds[i]? = some d → f v d ≤ sumZ f vs ds
  | [], _, _, _, _, h, _ => by simp at h
  | _ :: _, [], _, _, _, _, h => by simp at h
  | a :: vs, b :: ds, 0, v, d, h, h' => by simp at h h'; subst h; subst h'; simp [sumZ]
  | a :: vs, b :: ds, i + 1, v, d, h, h' => by
    have := Zjk f vs ds i v d (by simpa using h) (by simpa using h')
    simp [sumZ]; omega
theorem Zhd (f : Value → D → Nat) : ∀ (vs : List Value) (ds : List D), (∀ (i : Nat) v d, vs[i]? = some v → ds[i]? = some d → f v d = 0) → sumZ f vs ds = 0
  | [], _, _ => by simp [sumZ]
  | _ :: _, [], _ => by simp [sumZ]
  | v :: vs, d :: ds, h => by
    have h0 := h 0 v d (by simp) (by simp)
    have := Zhd f vs ds (fun i v d hi hd => h (i + 1) v d (by simpa using hi) (by simpa using hd))
    simp [sumZ, h0, this]
theorem Zs4 (f g : Value → D → Nat) : ∀ (vs : List Value) (ds es : List D), ds.length = es.length → (∀ (i : Nat) v d e, vs[i]? = some v → ds[i]? = some d → es[i]? = some e → f v d ≤ g v e) → sumZ f vs ds ≤ sumZ g vs es
  | [], _, _, _, _ => by simp [sumZ]
  | _ :: _, [], _, _, _ => by simp [sumZ]
  | _ :: _, _ :: _, [], h, _ => by simp at h
  | v :: vs, d :: ds, e :: es, h, k => by
    have h0 := k 0 v d e (by simp) (by simp) (by simp)
    have := Zs4 f g vs ds es (by simpa using h) (fun i v d e hv hd he => k (i + 1) v d e (by simpa using hv) (by simpa using hd) (by simpa using he))
    simp [sumZ]; omega
def tok (b : Nat) (v : Value) (d : D) : Nat :=
  match v, d with
  | .slice (some a) n cap, .osl ex _ _ es => if a.block = b ∧ ((ex = true ∧ es ≠ []) ∨ n < cap) then 1 else 0
  | _, _ => 0
def tokA (b : Nat) (v : Value) (d : D) : Nat :=
  match v, d with
  | .agg vs, .agg ds => sumZ (tok b) vs.toList ds
  | v, d => tok b v d
def tokT (b : Nat) (v : Value) (d : D) : Nat :=
  match v, d with
  | .tuple vs, .tup ds => sumZ (tokA b) vs.toList ds
  | v, d => tokA b v d
def OwnOK (w : World) (S : Nat → Nat → Prop) (a : Addr) (sz n cap : Nat) (ex : Bool) (es : List (List E)) : Prop :=
  (a.spot = none ∧ a.off = 0) ∧ ∃ arr elem fz, w.heap[a.block]? = some (.cells arr elem fz) ∧ a.off + cap * sz ≤ arr.size ∧ (∀ j, j < arr.size → w.frozen? ⟨a.block, j, none⟩ = false) ∧
    (∀ j, a.off + n * sz ≤ j → ¬ S a.block j) ∧
    (ex = true → (∀ j, a.off ≤ j → ¬ S a.block j) ∧ ∀ i r j x, es[i]? = some r → r[j]? = some x → ∃ v, arr[a.off + i * sz + j]? = some v ∧ RelE w S v x)
def Leaf0 (w : World) (S : Nat → Nat → Prop) (v : Value) (d : D) : Prop :=
  match v, d with
  | .slice (some a) n cap, .osl ex _ sz es => ((ex = true ∧ es ≠ []) ∨ n < cap) → OwnOK w S a sz n cap ex es
  | _, _ => True
def LeafA (w : World) (S : Nat → Nat → Prop) (v : Value) (d : D) : Prop :=
  match v, d with
  | .agg vs, .agg ds => ∀ (i : Nat) v d, vs[i]? = some v → ds[i]? = some d → Leaf0 w S v d
  | v, d => Leaf0 w S v d
def LeafT (w : World) (S : Nat → Nat → Prop) (v : Value) (d : D) : Prop :=
  match v, d with
  | .tuple vs, .tup ds => ∀ (i : Nat) v d, vs[i]? = some v → ds[i]? = some d → LeafA w S v d
  | v, d => LeafA w S v d
theorem Leaf0.keep {w w' : World} {S S' : Nat → Nat → Prop} {v : Value} {d : D} (h : Leaf0 w S v d) (hS : ∀ b j, S b j → S' b j)
    (hw : ∀ b j, S b j → w'.cell? ⟨b, j, none⟩ = w.cell? ⟨b, j, none⟩)
    (hb : ∀ b, 0 < tok b v d → w'.heap[b]? = w.heap[b]? ∧ ∀ j, S' b j → S b j) : Leaf0 w' S' v d := by
  unfold Leaf0 at h ⊢
  split at h
  · rename_i a n cap ex fu sz es
    intro hc
    obtain ⟨h0, arr, elem, fz, h1, h2, h3, h4, h5⟩ := h hc
    obtain ⟨k1, k2⟩ := hb a.block (by simp only [tok]; rw [if_pos ⟨trivial, hc⟩]; exact Nat.one_pos)
    refine ⟨h0, arr, elem, fz, k1.trans h1, h2, ?_, fun j hj hs => h4 j hj (k2 j hs), fun hx => ⟨fun j hj hs => (h5 hx).1 j hj (k2 j hs), fun i r j x hi hj => ?_⟩⟩
    · intro j hj
      have := h3 j hj
      simp only [World.frozen?] at this ⊢
      rw [k1]; exact this
    · obtain ⟨v, q1, q2⟩ := (h5 hx).2 i r j x hi hj
      exact ⟨v, q1, q2.mono hS hw⟩
  · trivial
theorem LeafA.keep {w w' : World} {S S' : Nat → Nat → Prop} {v : Value} {d : D} (h : LeafA w S v d) (hS : ∀ b j, S b j → S' b j)
    (hw : ∀ b j, S b j → w'.cell? ⟨b, j, none⟩ = w.cell? ⟨b, j, none⟩)
    (hb : ∀ b, 0 < tokA b v d → w'.heap[b]? = w.heap[b]? ∧ ∀ j, S' b j → S b j) : LeafA w' S' v d := by
  unfold LeafA at h ⊢
  split at h
  · rename_i vs ds
    intro i v d hi hd
    refine (h i v d hi hd).keep hS hw (fun b ht => hb b ?_)
    have := Zjk (tok b) vs.toList ds i v d (by simpa using hi) hd
    simp only [tokA]; omega
  · rename_i h'
    refine Leaf0.keep h hS hw (fun b ht => hb b ?_)
    unfold tokA; split
    · exact absurd rfl (h' _ _ rfl)
    · exact ht
theorem LeafT.keep {w w' : World} {S S' : Nat → Nat → Prop} {v : Value} {d : D} (h : LeafT w S v d) (hS : ∀ b j, S b j → S' b j)
    (hw : ∀ b j, S b j → w'.cell? ⟨b, j, none⟩ = w.cell? ⟨b, j, none⟩)
    (hb : ∀ b, 0 < tokT b v d → w'.heap[b]? = w.heap[b]? ∧ ∀ j, S' b j → S b j) : LeafT w' S' v d := by
  unfold LeafT at h ⊢
  split at h
  · rename_i vs ds
    intro i v d hi hd
    refine (h i v d hi hd).keep hS hw (fun b ht => hb b ?_)
    have := Zjk (tokA b) vs.toList ds i v d (by simpa using hi) hd
    simp only [tokT]; omega
  · rename_i h'
    refine LeafA.keep h hS hw (fun b ht => hb b ?_)
    unfold tokT; split
    · exact absurd rfl (h' _ _ rfl)
    · exact ht
structure RelL (w : World) (G : Gh) (vs : List Value) (ds : List D) : Prop where
  len : vs.length = ds.length
  rel : ∀ (i : Nat) v d, vs[i]? = some v → ds[i]? = some d → RelD w G v d
  leaf : ∀ (i : Nat) v d, vs[i]? = some v → ds[i]? = some d → LeafT w G.S v d
theorem RelL.keep {w w' : World} {G G' : Gh} {vs : List Value} {ds : List D} (h : RelL w G vs ds) (k : Later w G w' G')
    (hb : ∀ b, 0 < sumZ (tokT b) vs ds → w'.heap[b]? = w.heap[b]? ∧ ∀ j, G'.S b j → G.S b j) : RelL w' G' vs ds :=
  ⟨h.len, fun i v d hi hd => (h.rel i v d hi hd).mono k, fun i v d hi hd => (h.leaf i v d hi hd).keep k.S k.cell (fun b ht => hb b (Nat.lt_of_lt_of_le ht (Zjk _ _ _ _ _ _ hi hd)))⟩
theorem RelL.nil (w : World) (G : Gh) : RelL w G [] [] := ⟨rfl, fun i v d h => by simp at h, fun i v d h => by simp at h⟩
theorem RelL.cons {w : World} {G : Gh} {vs : List Value} {ds : List D} {v : Value} {d : D} (h : RelL w G vs ds) (h1 : RelD w G v d) (h2 : LeafT w G.S v d) : RelL w G (v :: vs) (d :: ds) :=
  ⟨by simp [h.len], fun i v' d' hi hd => by
    cases i with
    | zero => simp at hi hd; subst hi; subst hd; exact h1
    | succ i => exact h.rel i v' d' (by simpa using hi) (by simpa using hd),
   fun i v' d' hi hd => by
    cases i with
    | zero => simp at hi hd; subst hi; subst hd; exact h2
    | succ i => exact h.leaf i v' d' (by simpa using hi) (by simpa using hd)⟩
theorem RelL.head {w : World} {G : Gh} {vs : List Value} {ds : List D} {v : Value} {d : D} (h : RelL w G (v :: vs) (d :: ds)) : RelD w G v d ∧ LeafT w G.S v d :=
  ⟨h.rel 0 v d rfl rfl, h.leaf 0 v d rfl rfl⟩
theorem RelL.tail {w : World} {G : Gh} {vs : List Value} {ds : List D} {v : Value} {d : D} (h : RelL w G (v :: vs) (d :: ds)) : RelL w G vs ds :=
  ⟨by simpa using h.len, fun i v' d' hi hd => h.rel (i + 1) v' d' (by simpa using hi) (by simpa using hd), fun i v' d' hi hd => h.leaf (i + 1) v' d' (by simpa using hi) (by simpa using hd)⟩
theorem RelL.append {w : World} {G : Gh} {vs us : List Value} {ds cs : List D} (h : RelL w G vs ds) (k : RelL w G us cs) : RelL w G (vs ++ us) (ds ++ cs) := by
  have hl := h.len
  refine ⟨by simp [h.len, k.len], fun i v d hi hd => ?_, fun i v d hi hd => ?_⟩
  all_goals
    by_cases hlt : i < vs.length
    · rw [List.getElem?_append_left hlt] at hi
      rw [List.getElem?_append_left (by omega)] at hd
      first | exact h.rel i v d hi hd | exact h.leaf i v d hi hd
    · rw [List.getElem?_append_right (by omega)] at hi
      rw [List.getElem?_append_right (by omega), ← hl] at hd
      first | exact k.rel _ v d hi hd | exact k.leaf _ v d hi hd
theorem RelL.set {w : World} {G : Gh} {vs : List Value} {ds : List D} {v : Value} {d : D} (h : RelL w G vs ds) (i : Nat) (h1 : RelD w G v d) (h2 : LeafT w G.S v d) : RelL w G (vs.set i v) (ds.set i d) := by
  have hl := h.len
  refine ⟨by simp [h.len], fun j v' d' hi hd => ?_, fun j v' d' hi hd => ?_⟩
  all_goals
    by_cases e : i = j
    · subst e
      rw [List.getElem?_set] at hi hd
      simp at hi hd
      obtain ⟨_, rfl⟩ := hi; obtain ⟨_, rfl⟩ := hd
      first | exact h1 | exact h2
    · rw [List.getElem?_set_ne e] at hi hd
      first | exact h.rel j v' d' hi hd | exact h.leaf j v' d' hi hd
theorem RelL.setD {w : World} {G : Gh} {vs : List Value} {ds : List D} {v : Value} {d : D} (h : RelL w G vs ds) (i : Nat) (hv : vs[i]? = some v) (h1 : RelD w G v d) (h2 : LeafT w G.S v d) : RelL w G vs (ds.set i d) := by
  have := h.set i h1 h2
  rwa [show vs.set i v = vs from by
    apply List.ext_getElem?; intro k
    by_cases e : i = k
    · subst e; rw [List.getElem?_set]; simp [hv]; exact (List.getElem?_eq_some_iff.1 hv).1
    · rw [List.getElem?_set_ne e]] at this
def RelO (w : World) (G : Gh) (b : Nat) (o : O) : Prop :=
  match o with
  | .cells cs => ∃ arr elem fz, w.heap[b]? = some (.cells arr elem fz) ∧ (∀ j, j < arr.size → w.frozen? ⟨b, j, none⟩ = false) ∧ cs.length ≤ arr.size ∧ (∀ (i : Nat) v, i < cs.length → arr[i]? = some v → v.oneCell' = true) ∧
      ∀ (i : Nat) v d, arr[i]? = some v → cs[i]? = some d → RelD w G v d ∧ Leaf0 w G.S v d
  | .map es => ∃ ents clock, w.heap[b]? = some (.map ents clock) ∧ ents.size = es.length ∧
      ∀ (i : Nat) (m : MapEntry) (k : E) (d : D), ents[i]? = some m → es[i]? = some (k, d) → RelE w G.S m.key k ∧ RelD w G m.val d ∧ Zkx d = true
  | .loop st pd fn env ps asg body => ∃ tm bd, w.heap[b]? = some (.loop { state := st, pending := pd, fn := fn, tmps := tm, params := ps.toArray, assign := asg, body := body, defers := bd }) ∧
      RelL w G tm.toList env ∧ ∀ b, sumZ (tokT b) tm.toList env = 0
  | .dead => True
def Zg5 (w : World) (b bi : Nat) (o : O) : Nat :=
  match o with
  | .cells cs => match w.heap[bi]? with
    | some (.cells arr _ _) => sumZ (tok b) arr.toList cs
    | _ => 0
  | _ => 0
def hsum (w : World) (b : Nat) : List Nat → List O → Nat
  | bi :: ob, o :: h => Zg5 w b bi o + hsum w b ob h
  | _, _ => 0
inductive RelDf (w : World) (G : Gh) : List Deferred → List (FuncId × List D) → Prop where
  | nil : RelDf w G [] []
  | fn (g : FuncId) (cap args : Array Value) (ds : List D) (df : List Deferred) (l : List (FuncId × List D)) (hl : (args ++ cap).toList.length = ds.length)
      (h : ∀ (i : Nat) v d, (args ++ cap)[i]? = some v → ds[i]? = some d → RelD w G v d ∧ ∀ b, tokT b v d = 0) (t : RelDf w G df l) : RelDf w G ({ target := .fn (.func g) cap, args := args } :: df) ((g, ds) :: l)
  | mark (b : Nat) (df : List Deferred) (l : List (FuncId × List D)) (hb : w.heap[b]? = some (.deferred (some []))) (ho : b ∉ G.ob) (t : RelDf w G df l) : RelDf w G ({ target := .collected b, args := #[] } :: df) l
structure RelSt (w : World) (G : Gh) (tm : List Value) (df : List Deferred) (pv : List Value) (pd : List D) (s : St) : Prop where
  L : RelL w G tm s.t
  P : RelL w G pv pd
  len : G.ob.length = s.h.length
  nd : G.ob.Nodup
  obS : ∀ (i b : Nat), G.ob[i]? = some b → b < w.heap.size ∧ (s.h[i]? ≠ some .dead → ∀ j, ¬ G.S b j)
  H : ∀ (i b : Nat) (o : O), G.ob[i]? = some b → s.h[i]? = some o → RelO w G b o
  S : ∀ b j, G.S b j → ∃ v, w.cell? ⟨b, j, none⟩ = some v
  one : ∀ b, sumZ (tokT b) tm s.t + sumZ (tokT b) pv pd + hsum w b G.ob s.h ≤ 1
  noob : ∀ b ∈ G.ob, sumZ (tokT b) tm s.t + sumZ (tokT b) pv pd + hsum w b G.ob s.h = 0
  dfr : RelDf w G df s.d
theorem RelSt.ob_lt {w : World} {G : Gh} {tm : List Value} {df : List Deferred} {pv : List Value} {pd : List D} {s : St} (h : RelSt w G tm df pv pd s) {b : Nat} (hb : b ∈ G.ob) : b < w.heap.size := by
  obtain ⟨i, hi⟩ := List.getElem?_of_mem hb
  exact (h.obS i b hi).1
def cntS (w : World) (G : Gh) (tm : List Value) (pv : List Value) (pd : List D) (s : St) (b : Nat) : Nat :=
  sumZ (tokT b) tm s.t + sumZ (tokT b) pv pd + hsum w b G.ob s.h
structure Ext (w : World) (G : Gh) (c : Nat → Nat) (w' : World) (G' : Gh) (c' : Nat → Nat) : Prop where
  later : Later w G w' G'
  size : w.heap.size ≤ w'.heap.size
  obnew : ∀ b ∈ G'.ob, b ∈ G.ob ∨ w.heap.size ≤ b ∨ 0 < c b
  Ssame : ∀ b, b < w.heap.size → c b = 0 → b ∉ G.ob → ∀ j, G'.S b j → G.S b j
  same : ∀ b, b < w.heap.size → c b = 0 → b ∉ G.ob → w'.heap[b]? = w.heap[b]?
  cnt : ∀ b, b < w.heap.size → c' b ≤ c b
  wo : w'.os = w.os ∧ w'.output = w.output
theorem Ext.refl (w : World) (G : Gh) (c : Nat → Nat) : Ext w G c w G c :=
  ⟨.refl w G, Nat.le_refl _, fun _ h => .inl h, fun _ _ _ _ _ h => h, fun _ _ _ _ => rfl, fun _ _ => Nat.le_refl _, rfl, rfl⟩
theorem Ext.trans {w w1 w2 : World} {G G1 G2 : Gh} {c c1 c2 : Nat → Nat} (h : Ext w G c w1 G1 c1) (k : Ext w1 G1 c1 w2 G2 c2) : Ext w G c w2 G2 c2 where
  later := h.later.trans k.later
  size := Nat.le_trans h.size k.size
  obnew b hb := by
    rcases k.obnew b hb with h' | h' | h'
    · exact h.obnew b h'
    · exact .inr (.inl (Nat.le_trans h.size h'))
    · rcases Nat.lt_or_ge b w.heap.size with hlt | hge
      · have := h.cnt b hlt; exact .inr (.inr (by omega))
      · exact .inr (.inl hge)
  Ssame b hb hc ho j hs := by
    have h1 := h.cnt b hb
    refine h.Ssame b hb hc ho j (k.Ssame b (Nat.lt_of_lt_of_le hb h.size) (by omega) ?_ j hs)
    intro hb'
    rcases h.obnew b hb' with h' | h' | h'
    · exact ho h'
    · omega
    · omega
  same b hb hc ho := by
    have h1 := h.cnt b hb
    refine (k.same b (Nat.lt_of_lt_of_le hb h.size) (by omega) ?_).trans (h.same b hb hc ho)
    intro hb'
    rcases h.obnew b hb' with h' | h' | h'
    · exact ho h'
    · omega
    · omega
  cnt b hb := Nat.le_trans (k.cnt b (Nat.lt_of_lt_of_le hb h.size)) (h.cnt b hb)
  wo := ⟨k.wo.1.trans h.wo.1, k.wo.2.trans h.wo.2⟩
theorem Ext.weaken {w w' : World} {G G' : Gh} {c c' d d' : Nat → Nat} (h : Ext w G c w' G' c') (hc : ∀ b, c b ≤ d b) (hd : ∀ b, b < w.heap.size → d' b ≤ d b) : Ext w G d w' G' d' :=
  ⟨h.later, h.size, fun b hb => (h.obnew b hb).imp id (fun x => x.imp id (fun y => Nat.lt_of_lt_of_le y (hc b))), fun b hb h0 => h.Ssame b hb (by have := hc b; omega), fun b hb h0 => h.same b hb (by have := hc b; omega), hd, h.wo⟩
end Go.Abs
namespace Go.Abs
theorem Zm4 {w : World} {S : Nat → Nat → Prop} {v : Value} {d : D} (h : ∀ b, tok b v d = 0) : Leaf0 w S v d := by
  unfold Leaf0
  split
  · rename_i a n cap ex fu sz es
    intro hc
    have := h a.block
    simp only [tok] at this
    rw [if_pos ⟨trivial, hc⟩] at this
    omega
  · trivial
theorem Znw {w : World} {S : Nat → Nat → Prop} {v : Value} {d : D} (h : ∀ b, tokA b v d = 0) : LeafA w S v d := by
  unfold LeafA
  split
  · rename_i vs ds
    intro i v d hi hd
    refine Zm4 fun b => ?_
    have := h b
    simp only [tokA] at this
    have := Zjk (tok b) vs.toList ds i v d (by simpa using hi) hd
    omega
  · rename_i h'
    refine Zm4 fun b => ?_
    have := h b
    unfold tokA at this; split at this
    · exact absurd rfl (h' _ _ rfl)
    · exact this
theorem Zga {w : World} {S : Nat → Nat → Prop} {v : Value} {d : D} (h : ∀ b, tokT b v d = 0) : LeafT w S v d := by
  unfold LeafT
  split
  · rename_i vs ds
    intro i v d hi hd
    refine Znw fun b => ?_
    have := h b
    simp only [tokT] at this
    have := Zjk (tokA b) vs.toList ds i v d (by simpa using hi) hd
    omega
  · rename_i h'
    refine Znw fun b => ?_
    have := h b
    unfold tokT at this; split at this
    · exact absurd rfl (h' _ _ rfl)
    · exact this
def flat : D → Bool
  | .agg _ => false
  | .tup _ => false
  | _ => true
theorem Zkj {b : Nat} {v : Value} {d : D} (h : flat d = true) : tokA b v d = tok b v d := by
  cases d <;> simp [flat] at h <;> (cases v <;> rfl)
theorem Zda {b : Nat} {v : Value} {d : D} (h : flat d = true) : tokT b v d = tok b v d := by
  cases d <;> simp [flat] at h <;> (cases v <;> rfl)
theorem Zh0 {b : Nat} {v : Value} {d : D} (h : notTup d = true) : tokT b v d = tokA b v d := by
  cases d <;> simp [notTup] at h <;> (cases v <;> rfl)
theorem Zfk {w : World} {S : Nat → Nat → Prop} {v : Value} {d : D} (h : flat d = true) : LeafA w S v d ↔ Leaf0 w S v d := by
  cases d <;> simp [flat] at h <;> (cases v <;> exact Iff.rfl)
theorem Zdu {w : World} {S : Nat → Nat → Prop} {v : Value} {d : D} (h : notTup d = true) : LeafT w S v d ↔ LeafA w S v d := by
  cases d <;> simp [notTup] at h <;> (cases v <;> exact Iff.rfl)
theorem RelD.one {w : World} {G : Gh} {v : Value} {d : D} (h : RelD w G v d) (hf : flat d = true) : v.oneCell' = true := by
  cases h <;> first | rfl | (simp [flat] at hf; done) | (rename_i h; exact h.one)
theorem Zme (b : Nat) (v : Value) (x : E) : tok b v (.e x) = 0 := by unfold tok; split <;> simp_all
theorem Zj4 {w : World} {G : Gh} {b : Nat} {v : Value} {d : D} (h : RelD w G v d) (ho : own0 d = false) : tok b v d = 0 := by
  unfold tok
  split
  · rename_i a n cap ex fu sz es
    simp [own0] at ho
    cases h with
    | osl b o n cap sz es ex fu hn hc hfu h0 hsz hs =>
      have := hfu ho.2
      simp [ho.1]; omega
  · rfl
theorem tokA_own {w : World} {G : Gh} {b : Nat} {v : Value} {d : D} (h : RelD w G v d) (ho : ownA d = false) : tokA b v d = 0 := by
  cases hf : flat d with
  | true =>
    rw [Zkj hf]; refine Zj4 h ?_
    cases d <;> simp_all [flat, ownA]
  | false =>
    cases d <;> simp [flat] at hf
    · rename_i ds
      cases h with
      | agg vs _ h1 ho' hd =>
        simp only [tokA]
        refine Zhd _ _ _ fun i v d hi hd' => Zj4 (hd i v d (by simpa using hi) hd') ?_
        have : ∀ x ∈ ds, own0 x = false := by simpa [ownA] using ho
        exact this d (List.mem_of_getElem? hd')
    · cases h with
      | tup vs _ h1 hd => rfl
theorem Zhc {w : World} {G : Gh} {b : Nat} {v : Value} {d : D} (h : RelD w G v d) (ho : ownD d = false) : tokT b v d = 0 := by
  cases hd : notTup d with
  | true => rw [Zh0 hd]; refine tokA_own h ?_; cases d <;> simp_all [notTup, ownD]
  | false =>
    cases d <;> simp [notTup] at hd
    rename_i ds
    cases h with
    | tup vs _ h1 hd' =>
      simp only [tokT]
      refine Zhd _ _ _ fun i v d hi hd'' => tokA_own (hd' i v d (by simpa using hi) hd'') ?_
      have : ∀ x ∈ ds, ownA x = false := by simpa [ownD] using ho
      exact this d (List.mem_of_getElem? hd'')
theorem Zpx {w : World} {G : Gh} {v : Value} {d : D} (h : RelD w G v d) : RelD w G v (Zh7 d) := by
  cases d with
  | osl ex fu sz es =>
    cases h with
    | oslN _ _ _ =>
      cases ex <;> cases fu <;> simp only [Zh7]
      · exact .e _ _ .nilsl
      · exact .oslN _ _ _
      · exact .hdr _ _ _
      · exact .hdr _ _ _
    | osl b o n cap _ _ _ _ hn hc hfu h0 hsz hs =>
      subst hn
      cases ex <;> cases fu <;> simp only [Zh7]
      · rcases h0 with h0 | ⟨rfl, h0⟩
        · exact .e _ _ (RelE.of_rows hc h0 hsz (hs rfl))
        · exact .e _ _ (RelE.of_rows (sz := 1) (es := []) (by simp) (by omega) (by simp) (by simp))
      · exact .osl b o es.length cap sz es _ _ rfl hc hfu h0 hsz hs
      · exact .hdr _ _ _
      · exact .hdr _ _ _
  | _ => exact h
theorem Zrz {w : World} {G : Gh} {v : Value} {d : D} (b : Nat) (h : RelD w G v d) : tok b v (Zh7 d) = 0 := by
  have h' := Zpx h
  refine Zj4 h' ?_
  cases d <;> try rfl
  rename_i ex fu sz es; cases ex <;> cases fu <;> rfl
theorem Zy2 {w : World} {G : Gh} {vs : Array Value} {ds : List D} (f : D → D) (h : RelD w G (.agg vs) (.agg ds)) (hf : ∀ v d, RelD w G v d → RelD w G v (f d)) : RelD w G (.agg vs) (.agg (ds.map f)) := by
  cases h with
  | agg _ _ h1 ho hd =>
    refine .agg _ _ (by simpa using h1) ho fun i v d hi hd' => ?_
    simp at hd'
    obtain ⟨d0, h0, rfl⟩ := hd'
    exact hf _ _ (hd i v d0 hi h0)
theorem Zuw {w : World} {G : Gh} {v : Value} {d : D} (h : RelD w G v d) : RelD w G v (left d) := by
  cases d <;> first | exact Zpx h | skip
  rename_i ds
  cases h with
  | agg vs _ h1 ho hd => exact Zy2 Zh7 (.agg vs ds h1 ho hd) (fun _ _ => Zpx)
theorem Zpi {w : World} {G : Gh} {v : Value} {d : D} (b : Nat) (h : RelD w G v d) : tokA b v (left d) = 0 := by
  cases d <;> first
    | (simp only [left]; rw [Zkj (by first | rfl | (rename_i ex fu sz es; cases ex <;> cases fu <;> rfl))]; exact Zrz b h)
    | skip
  case agg ds =>
    cases h with
    | agg vs _ h1 ho hd =>
      simp only [left, tokA]
      refine Zhd _ _ _ fun i v d hi hd' => ?_
      simp at hd'
      obtain ⟨d0, h0, rfl⟩ := hd'
      exact Zrz b (hd i v d0 (by simpa using hi) h0)
  case tup ds => cases h with | tup vs _ h1 hd => rfl
theorem Zsc {w : World} {G : Gh} {v : Value} {d : D} (h : RelD w G v d) : RelD w G v (Zlo d) := by
  cases d <;> first | exact Zuw h | skip
  rename_i ds
  cases h with
  | tup vs _ h1 hd =>
    refine .tup _ _ (by simpa using h1) fun i v d hi hd' => ?_
    simp at hd'
    obtain ⟨d0, h0, rfl⟩ := hd'
    exact Zuw (hd i v d0 hi h0)
theorem Zlc {w : World} {G : Gh} {v : Value} {d : D} (b : Nat) (h : RelD w G v d) : tokT b v (Zlo d) = 0 := by
  cases hd : notTup d with
  | true =>
    have : Zlo d = left d := by cases d <;> simp_all [notTup, Zlo]
    rw [this]
    have h2 : notTup (left d) = true := by
      cases d <;> simp_all [notTup, left, Zh7]
      rename_i ex fu sz es; cases ex <;> cases fu <;> rfl
    rw [Zh0 h2]; exact Zpi b h
  | false =>
    cases d <;> simp [notTup] at hd
    rename_i ds
    cases h with
    | tup vs _ h1 hd' =>
      simp only [Zlo, tokT]
      refine Zhd _ _ _ fun i v d hi hd'' => ?_
      simp at hd''
      obtain ⟨d0, h0, rfl⟩ := hd''
      exact Zpi b (hd' i v d0 (by simpa using hi) h0)
def ev (tm : List Value) : Operand → Value
  | .tmp t => tm.getD t undef
  | .const v => v
  | .global g => .pointer (some ⟨g, 0, none⟩)
  | .func f => .func (.func f) #[] #[]
section
variable {w : World} {G : Gh} {tm : List Value} {df : List Deferred} {pv : List Value} {pd : List D} {s : St}
theorem Zi6 (w : World) (G : Gh) : RelD w G undef Zaw := .tup #[] [] rfl (fun i v d h => by simp at h)
theorem Zep (b : Nat) : tokT b undef Zaw = 0 := by simp [tokT, undef, sumZ]
theorem RelSt.slot (h : RelSt w G tm df pv pd s) (t : Nat) : RelD w G (tm.getD t undef) (s.t.getD t Zaw) ∧ LeafT w G.S (tm.getD t undef) (s.t.getD t Zaw) := by
  have hl := h.L.len
  by_cases ht : t < tm.length
  · have hv : tm[t]? = some tm[t] := Ya4 ht
    have hd : s.t[t]? = some (s.t[t]'(by omega)) := Ya4 (by omega)
    simp only [Ya3, hv, hd, Option.getD_some]
    exact ⟨h.L.rel t _ _ hv hd, h.L.leaf t _ _ hv hd⟩
  · simp only [Ya3, Ya5 (Nat.le_of_not_lt ht), Ya5 (show s.t.length ≤ t by omega), Option.getD_none]
    exact ⟨Zi6 w G, Zga (Zep ·)⟩
theorem ofV0_rel {v : Value} {x : E} (h : ofV0 v = some x) : RelE w G.S v x := by
  unfold ofV0 at h
  split at h <;> simp at h <;> subst h <;> constructor
theorem ofV1_rel {v : Value} {d : D} (h : ofV1 v = some d) : RelD w G v d ∧ flat d = true ∧ own0 d = false := by
  unfold ofV1 at h
  split at h
  · simp at h; subst h; exact ⟨.oslN _ _ _, rfl, rfl⟩
  · simp at h
    obtain ⟨x, hx, rfl⟩ := h
    exact ⟨.e _ _ (ofV0_rel hx), rfl, rfl⟩
theorem ofVs_rel : ∀ (vs : List Value) (ds : List D), ofVs vs = some ds → vs.length = ds.length ∧ ∀ (i : Nat) v d, vs[i]? = some v → ds[i]? = some d → RelD w G v d ∧ flat d = true ∧ own0 d = false
  | [], ds, h => by simp [ofVs] at h; subst h; exact ⟨rfl, fun i v d h => by simp at h⟩
  | v :: vs, ds, h => by
    simp only [ofVs] at h
    split at h
    · rename_i d ds' h1 h2
      simp at h; subst h
      obtain ⟨k1, k2⟩ := ofVs_rel vs ds' h2
      refine ⟨by simp [k1], fun i v' d' hv hd => ?_⟩
      cases i with
      | zero => simp at hv hd; subst hv; subst hd; exact ofV1_rel h1
      | succ i => exact k2 i v' d' (by simpa using hv) (by simpa using hd)
    · simp at h
theorem Zsp {v : Value} {d : D} (h : ofV v = some d) : RelD w G v d ∧ ownD d = false ∧ notTup d = true ∨ (v = undef ∧ d = Zaw) := by
  unfold ofV at h
  split at h
  · rename_i cs
    simp at h
    obtain ⟨ds, h1, rfl⟩ := h
    obtain ⟨k1, k2⟩ := ofVs_rel (w := w) (G := G) _ _ h1
    refine .inl ⟨.agg _ _ (by simpa using k1) ?_ (fun i v d hv hd => (k2 i v d (by simpa using hv) hd).1), ?_, rfl⟩
    · intro v hv
      obtain ⟨i, hi⟩ := List.getElem?_of_mem hv
      have hlt : i < ds.length := by rw [← k1]; exact (List.getElem?_eq_some_iff.1 hi).1
      obtain ⟨a, b, c⟩ := k2 i v ds[i] hi (Ya4 hlt)
      exact a.one b
    · simp only [ownD, ownA, List.any_eq_false]
      intro x hx
      obtain ⟨i, hi⟩ := List.getElem?_of_mem hx
      have hlt : i < cs.toList.length := by rw [k1]; exact (List.getElem?_eq_some_iff.1 hi).1
      simp [(k2 i _ x (Ya4 hlt) hi).2.2]
  · split at h
    · rename_i hv
      simp at h hv; subst h; subst hv; exact .inr ⟨rfl, rfl⟩
    · simp at h
  · obtain ⟨a, b, c⟩ := ofV1_rel (w := w) (G := G) h
    refine .inl ⟨a, ?_, ?_⟩
    · cases d <;> simp_all [ownD, ownA, flat]
    · cases d <;> simp_all [notTup, flat]
theorem Zjp {v : Value} {d : D} (h : ofV v = some d) : RelD w G v d ∧ ∀ b, tokT b v d = 0 := by
  rcases Zsp (w := w) (G := G) h with ⟨a, b, _⟩ | ⟨rfl, rfl⟩
  · exact ⟨a, fun x => Zhc a b⟩
  · exact ⟨Zi6 w G, Zep⟩
theorem Zh1 (h : RelSt w G tm df pv pd s) {x : Operand} {d : D} (hx : rd s x = some d) : RelD w G (ev tm x) d := by
  cases x with
  | tmp t => simp [rd] at hx; subst hx; exact (h.slot t).1
  | const v => exact (Zjp hx).1
  | global g => simp [rd] at hx
  | func f => simp [rd] at hx; subst hx; exact .func f #[] #[] [] [] rfl rfl (fun i v d h => by simp at h) (fun i v d h => by simp at h)
theorem RelSt.dup (h : RelSt w G tm df pv pd s) {v : Value} {d : D} (h1 : RelD w G v d) (h2 : ∀ b, tokT b v d = 0) : RelSt w G tm df (v :: pv) (d :: pd) s :=
  { L := h.L, P := h.P.cons h1 (Zga h2), len := h.len, nd := h.nd, obS := h.obS, H := h.H, S := h.S, dfr := h.dfr
    one := fun b => by have := h.one b; simp only [sumZ, h2 b]; omega
    noob := fun b hb => by have := h.noob b hb; simp only [sumZ, h2 b]; omega }
theorem RelSt.drop {v : Value} {d : D} (h : RelSt w G tm df (v :: pv) (d :: pd) s) : RelSt w G tm df pv pd s :=
  { L := h.L, P := h.P.tail, len := h.len, nd := h.nd, obS := h.obS, H := h.H, S := h.S, dfr := h.dfr
    one := fun b => by have := h.one b; simp only [sumZ] at this; omega
    noob := fun b hb => by have := h.noob b hb; simp only [sumZ] at this; omega }
theorem RelSt.less {v : Value} {d d' : D} (h : RelSt w G tm df (v :: pv) (d :: pd) s) (h1 : RelD w G v d') (h2 : ∀ b, tokT b v d' = 0) : RelSt w G tm df (v :: pv) (d' :: pd) s := h.drop.dup h1 h2
theorem RelSt.take (h : RelSt w G tm df pv pd s) {t : Nat} {d1 : D} (h1 : RelD w G (tm.getD t undef) d1) (h2 : ∀ b, tokT b (tm.getD t undef) d1 = 0) :
    RelSt w G tm df (tm.getD t undef :: pv) (s.t.getD t Zaw :: pd) { s with t := s.t.set t d1 } := by
  obtain ⟨k1, k2⟩ := h.slot t
  have hl := h.L.len
  have hs : ∀ b, sumZ (tokT b) tm (s.t.set t d1) + tokT b (tm.getD t undef) (s.t.getD t Zaw) = sumZ (tokT b) tm s.t := by
    intro b
    by_cases ht : t < tm.length
    · have hv : tm[t]? = some (tm.getD t undef) := by simp [Ya3, Ya4 ht]
      have hd : s.t[t]? = some (s.t.getD t Zaw) := by simp [Ya3, Ya4 (show t < s.t.length by omega)]
      have := Zpn (tokT b) tm s.t t d1 _ _ hv hd
      rw [h2 b] at this; omega
    · have e1 : tm.getD t undef = undef := by simp [Ya3, Ya5 (Nat.le_of_not_lt ht)]
      have e2 : s.t.getD t Zaw = Zaw := by simp [Ya3, Ya5 (show s.t.length ≤ t by omega)]
      rw [e1, e2, Zep, Ya6 (by omega)]; rfl
  exact {
    L := by
      by_cases ht : t < tm.length
      · exact h.L.setD t (by simp [Ya3, Ya4 ht]) h1 (Zga h2)
      · simp only; rw [Ya6 (by omega)]; exact h.L
    P := h.P.cons k1 k2
    len := h.len, nd := h.nd, obS := h.obS, H := h.H, S := h.S, dfr := h.dfr
    one := fun b => by have := h.one b; have := hs b; simp only [sumZ]; omega
    noob := fun b hb => by have := h.noob b hb; have := hs b; simp only [sumZ]; omega }
theorem RelSt.put {v : Value} {d : D} (h : RelSt w G tm df (v :: pv) (d :: pd) s) (t : Nat) :
    RelSt w G (tm.set t v) df pv pd { s with t := s.t.set t d } := by
  obtain ⟨k1, k2⟩ := h.P.head
  have hl := h.L.len
  have hs : ∀ b, sumZ (tokT b) (tm.set t v) (s.t.set t d) ≤ sumZ (tokT b) tm s.t + tokT b v d := by
    intro b
    by_cases ht : t < tm.length
    · have := Zri (tokT b) tm s.t t v d _ _ (Ya4 ht) (Ya4 (show t < s.t.length by omega))
      omega
    · rw [Ya6 (by omega), Ya6 (by omega)]; omega
  exact {
    L := h.L.set t k1 k2
    P := h.P.tail
    len := h.len, nd := h.nd, obS := h.obS, H := h.H, S := h.S, dfr := h.dfr
    one := fun b => by have := h.one b; have := hs b; simp only [sumZ] at *; omega
    noob := fun b hb => by have := h.noob b hb; have := hs b; simp only [sumZ] at *; omega }
theorem Zps (tm : List Value) (t : Nat) : tm.set t (tm.getD t undef) = tm := by
  by_cases ht : t < tm.length
  · apply List.ext_getElem?; intro k
    by_cases e : t = k
    · subst e; simp [Ya3, ht]
    · rw [List.getElem?_set_ne e]
  · exact Ya6 (by omega)
theorem cnt_put {v : Value} {d : D} (h : tm.length = s.t.length) (t : Nat) (b : Nat) : cntS w G (tm.set t v) pv pd { s with t := s.t.set t d } b ≤ cntS w G tm (v :: pv) (d :: pd) s b := by
  simp only [cntS, sumZ]
  by_cases ht : t < tm.length
  · have := Zri (tokT b) tm s.t t v d _ _ (Ya4 ht) (Ya4 (show t < s.t.length by omega))
    omega
  · rw [Ya6 (by omega), Ya6 (by omega)]; omega
theorem Zof (h : RelSt w G tm df pv pd s) (t : Nat) {d1 : D} (h2 : ∀ b, tokT b (tm.getD t undef) d1 = 0) (b : Nat) :
    cntS w G tm (tm.getD t undef :: pv) (s.t.getD t Zaw :: pd) { s with t := s.t.set t d1 } b = cntS w G tm pv pd s b := by
  simp only [cntS, sumZ]
  have hl := h.L.len
  by_cases ht : t < tm.length
  · have hv : tm[t]? = some (tm.getD t undef) := by simp [Ya3, Ya4 ht]
    have hd : s.t[t]? = some (s.t.getD t Zaw) := by simp [Ya3, Ya4 (show t < s.t.length by omega)]
    have := Zpn (tokT b) tm s.t t d1 _ _ hv hd
    rw [h2 b] at this
    omega
  · have e1 : tm.getD t undef = undef := by simp [Ya3, Ya5 (Nat.le_of_not_lt ht)]
    have e2 : s.t.getD t Zaw = Zaw := by simp [Ya3, Ya5 (show s.t.length ≤ t by omega)]
    rw [e1, e2, Zep b, Ya6 (by omega)]; omega
theorem Zs2 (h : RelSt w G tm df pv pd s) {x : Operand} {d : D} {s1 : St} (hx : tk s x = some (d, s1)) :
    RelSt w G tm df (ev tm x :: pv) (d :: pd) s1 ∧ (∀ b, cntS w G tm (ev tm x :: pv) (d :: pd) s1 b = cntS w G tm pv pd s b) ∧ s1.h = s.h ∧ s1.d = s.d ∧ s1.r = s.r := by
  cases x with
  | tmp t =>
    simp only [tk] at hx
    split at hx
    · simp at hx
      obtain ⟨rfl, rfl⟩ := hx
      have k := (h.slot t).1
      exact ⟨h.take (Zsc k) (fun b => Zlc b k), fun b => Zof h t (fun b => Zlc b k) b, rfl, rfl, rfl⟩
    · rename_i ho
      simp at hx
      obtain ⟨rfl, rfl⟩ := hx
      have k := (h.slot t).1
      have z : ∀ b, tokT b (tm.getD t undef) (s.t.getD t Zaw) = 0 := fun b => Zhc k (by simpa using ho)
      exact ⟨h.dup k z, fun b => by have := z b; simp only [cntS, sumZ, ev, Ya3] at this ⊢; omega, rfl, rfl, rfl⟩
  | const v =>
    simp [tk] at hx
    obtain ⟨d', h1, rfl, rfl⟩ := hx
    obtain ⟨k, z⟩ := Zjp (w := w) (G := G) h1
    exact ⟨h.dup k z, fun b => by have := z b; simp only [cntS, sumZ, ev] at this ⊢; omega, rfl, rfl, rfl⟩
  | global g => simp [tk, rd] at hx
  | func f =>
    have k := Zh1 h (x := .func f) (d := .func (.func f) [] []) rfl
    simp [tk, rd] at hx
    obtain ⟨rfl, rfl⟩ := hx
    exact ⟨h.dup k (fun b => rfl), fun b => by simp only [cntS, sumZ, ev, tokT, tokA, tok]; omega, rfl, rfl, rfl⟩
end
end Go.Abs
