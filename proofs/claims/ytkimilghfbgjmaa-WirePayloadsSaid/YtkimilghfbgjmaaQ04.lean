/-
  SLICES OF ONE'S OWN: a new one; one that grows in place. THE OPERATIONS, ONE BY ONE: moves, variables, loads and stores, addresses. THE OPERATIONS, ONE BY ONE: loads. No condition.
-/
import Derived.Test.YtkimilghfbgjmaaQ03

open List renaming getElem?_drop → Yac, getElem?_take → Yad, mem_of_getElem? → Yaa
open Nat renaming le_refl → Yab
namespace Go.Abs
def Znd (w : World) (S : Nat → Nat → Prop) (new : List Value) (sz : Nat) (xs : List (List E)) : Prop :=
  ∀ i r j x, xs[i]? = some r → r[j]? = some x → ∃ v, new[i * sz + j]? = some v ∧ RelE w S v x
section
variable {w : World} {G : Gh} {tm : List Value} {df : List Deferred} {pv : List Value} {pd : List D} {s : St}
theorem RelSt.fresh (h : RelSt w G tm df pv pd s) {w' : World} {arr : Array Value} {elem : TypeId} {fz : Nat × Nat} {n cap sz : Nat} {es : List (List E)} {fu : Bool}
    (hz : w'.heap.size = w.heap.size + 1) (hb : ∀ b, b < w.heap.size → w'.heap[b]? = w.heap[b]?) (hn : w'.heap[w.heap.size]? = some (.cells arr elem fz))
    (hf : ∀ j, j < arr.size → w'.frozen? ⟨w.heap.size, j, none⟩ = false) (h1 : n = es.length) (hc : n ≤ cap) (hfu : fu = true → cap = n) (h0 : 0 < sz) (hsz : ∀ r ∈ es, r.length = sz)
    (hsize : cap * sz ≤ arr.size) (hh : Znd w G.S arr.toList sz es) (hwo : w'.os = w.os ∧ w'.output = w.output) :
    RelSt w' G tm df (.slice (some ⟨w.heap.size, 0, none⟩) n cap :: pv) (.osl true fu sz es :: pd) s ∧
      Ext w G (cntS w G tm pv pd s) w' G (cntS w' G tm (.slice (some ⟨w.heap.size, 0, none⟩) n cap :: pv) (.osl true fu sz es :: pd) s) := by
  obtain ⟨k1, k2⟩ := h.world hb (by omega) hwo
  have htok : ∀ b, b ≠ w.heap.size → tokT b (.slice (some ⟨w.heap.size, 0, none⟩) n cap) (.osl true fu sz es) = 0 := by
    intro b hne
    rw [Zda rfl]
    exact if_neg (fun x => hne x.1.symm)
  have htok1 : ∀ b, tokT b (.slice (some ⟨w.heap.size, 0, none⟩) n cap) (.osl true fu sz es) ≤ 1 := by
    intro b
    rw [Zda rfl]; unfold tok; simp only
    split <;> omega
  have hfr := Zxn h
  have hfr' : cntS w' G tm pv pd s w.heap.size = 0 := by
    simp only [cntS] at hfr ⊢
    rw [Zim (w := w) (w' := w') _ _ (fun i bi o h1 h2 => Zht (hb bi (h.ob_lt (Yaa h1))))]
    exact hfr
  have hleaf : OwnOK w' G.S ⟨w.heap.size, 0, none⟩ sz n cap true es := by
    refine ⟨⟨rfl, rfl⟩, arr, elem, fz, hn, by simpa using hsize, hf, fun j _ => Zn1 h j, fun _ => ⟨fun j _ => Zn1 h j, fun i r j x hi hj => ?_⟩⟩
    obtain ⟨v, q1, q2⟩ := hh i r j x hi hj
    exact ⟨v, by simpa using q1, q2.mono (fun _ _ h => h) (fun b j hs => by simp only [World.cell?, hb b (h.S_lt hs)])⟩
  refine ⟨{ L := k1.L, P := k1.P.cons (.osl _ _ _ _ _ _ _ _ h1 hc hfu (.inl h0) hsz (fun hx => by simp at hx)) ?_, len := h.len, nd := h.nd, obS := k1.obS, H := k1.H, S := k1.S, one := ?_, noob := ?_, dfr := k1.dfr }, ⟨k2.later, k2.size, k2.obnew, k2.Ssame, k2.same, fun b hb' => ?_, k2.wo⟩⟩
  · rw [Zdu rfl, Zfk rfl]
    exact fun _ => hleaf
  · intro b
    have a1 := k1.one b
    by_cases e : b = w.heap.size
    · subst e
      have a2 := htok1 w.heap.size
      simp only [cntS] at hfr'; simp only [sumZ]; omega
    · have a2 := htok b e
      simp only [sumZ]; omega
  · intro b hbo
    have a1 := k1.noob b hbo
    have a2 := htok b (fun e => Zns h (e ▸ hbo))
    simp only [sumZ]; omega
  · have a1 := k2.cnt b hb'
    have a2 := htok b (by omega)
    simp only [cntS, sumZ] at *; omega
theorem Zqr {i n sz j : Nat} (hi : i < n) (hj : j < sz) : i * sz + j < n * sz := by
  calc i * sz + j < i * sz + sz := by omega
    _ = (i + 1) * sz := by rw [Nat.succ_mul]
    _ ≤ n * sz := Nat.mul_le_mul_right _ hi
theorem RelSt.growIn {ab ao n cap sz m : Nat} {es xs : List (List E)} {ex fu : Bool} {new : List Value}
    (h : RelSt w G tm df (.slice (some ⟨ab, ao, none⟩) n cap :: pv) (.osl ex fu sz es :: pd) s) (h0 : 0 < sz) (hm : m = xs.length) (hlt : n < cap) (hcap : n + m ≤ cap) (hl : new.length = m * sz) (hh : Znd w G.S new sz xs) (hsz : ∀ r ∈ xs, r.length = sz)
    (hone : ∀ v ∈ new, v.oneCell' = true) :
    (∀ j, j < new.length → (w.cell? ⟨ab, ao + n * sz + j, none⟩).isSome = true) ∧ (∀ j, j < new.length → w.frozen? ⟨ab, ao + n * sz + j, none⟩ = false) ∧
    ∃ G', RelSt (w.setCells ab (ao + n * sz) new) G' tm df (.slice (some ⟨ab, ao, none⟩) (n + m) cap :: pv) (.osl (ex || es.isEmpty) false sz (es ++ xs) :: pd) s ∧
      Ext w G (cntS w G tm (.slice (some ⟨ab, ao, none⟩) n cap :: pv) (.osl ex fu sz es :: pd) s) (w.setCells ab (ao + n * sz) new) G' (cntS (w.setCells ab (ao + n * sz) new) G' tm (.slice (some ⟨ab, ao, none⟩) (n + m) cap :: pv) (.osl (ex || es.isEmpty) false sz (es ++ xs) :: pd) s) := by
  obtain ⟨kr, kl⟩ := h.P.head
  rw [Zdu rfl, Zfk rfl] at kl
  obtain ⟨k0, arr, elem, fz, k1, k2, k3, k4, k5⟩ := kl (.inr hlt)
  simp only at k1 k2 k3 k4 k5
  have hn : n = es.length ∧ (∀ r ∈ es, r.length = sz) ∧ (ex = false → ∀ i r, es[i]? = some r → RowE w G.S ab (ao + i * sz) r) := by
    cases kr with | osl b o n cap sz es ex fu hn hc hfu h0' hsz' hs => exact ⟨hn, hsz', hs⟩
  obtain ⟨hn, hszs, hrows⟩ := hn
  have hcs : (n + m) * sz ≤ cap * sz := Nat.mul_le_mul_right _ hcap
  have hms : (n + m) * sz = n * sz + m * sz := Nat.add_mul _ _ _
  have htok : tokT ab (.slice (some ⟨ab, ao, none⟩) n cap) (.osl ex fu sz es) = 1 := by rw [Zda rfl]; exact if_pos ⟨rfl, .inr hlt⟩
  have hone' := h.one ab
  simp only [sumZ, htok] at hone'
  have hno : ab ∉ G.ob := fun hb => by have := h.noob ab hb; simp only [sumZ, htok] at this; omega
  obtain ⟨⟨arr', m1, m2⟩, m3, m4⟩ := Zmr ab new (ao + n * sz) w arr elem fz k1 (by omega)
  have hcell : ∀ b j, G.S b j → (w.setCells ab (ao + n * sz) new).cell? ⟨b, j, none⟩ = w.cell? ⟨b, j, none⟩ := by
    intro b j hs
    refine World.cell?_setCells_out ab new _ w _ (fun e _ => ?_)
    simp only at e ⊢; subst e
    have : ¬ ao + n * sz ≤ j := fun hx => k4 j hx hs
    omega
  refine ⟨fun j hj => ?_, fun j hj => k3 _ (by omega), ?_⟩
  · simp only [World.cell?, k1]
    simp; omega
  let lo := ao + n * sz
  let hi := ao + (n + m) * sz
  obtain ⟨ex', hex'⟩ : ∃ e, e = (ex || es.isEmpty) := ⟨_, rfl⟩
  rw [← hex']
  let G' : Gh := { ob := G.ob, S := fun b j => G.S b j ∨ (ex' = false ∧ b = ab ∧ lo ≤ j ∧ j < hi) }
  have later : Later w G (w.setCells ab (ao + n * sz) new) G' := ⟨fun _ _ h => h, fun _ _ h => .inl h, hcell⟩
  have hSx : ∀ b j, b ≠ ab → G'.S b j → G.S b j := by
    rintro b j hne (hs | ⟨_, e, _⟩)
    · exact hs
    · exact absurd e hne
  have keep : ∀ b, b ≠ ab → (w.setCells ab (ao + n * sz) new).heap[b]? = w.heap[b]? ∧ ∀ j, G'.S b j → G.S b j := fun b hne => ⟨m3 b hne, fun j => hSx b j hne⟩
  have sz' : arr'.size = arr.size := by
    have := congrArg List.length m2
    rw [Zgl _ _ _ (by simp; omega)] at this; simpa using this
  have hnew : ∀ i r j x, xs[i]? = some r → r[j]? = some x → ∃ v, arr'[ao + (n + i) * sz + j]? = some v ∧ RelE (w.setCells ab (ao + n * sz) new) G'.S v x := by
    intro i r j x hi hj
    obtain ⟨v, q1, q2⟩ := hh i r j x hi hj
    refine ⟨v, ?_, q2.mono later.S later.cell⟩
    have hil : i < m := by rw [hm]; exact (List.getElem?_eq_some_iff.1 hi).1
    have hjl : j < sz := by rw [← hsz r (Yaa hi)]; exact (List.getElem?_eq_some_iff.1 hj).1
    have := Zqr hil hjl
    have e : (n + i) * sz = n * sz + i * sz := Nat.add_mul _ _ _
    have : arr'.toList[ao + (n + i) * sz + j]? = some v := by
      rw [m2, Zfd _ _ _ (by simp; omega), if_neg (by omega), if_pos (by omega), ← q1]
      congr 1; omega
    simpa using this
  have hold : ∀ k, k < ao + n * sz → arr'[k]? = arr[k]? := by
    intro k hk
    have : arr'.toList[k]? = arr.toList[k]? := by rw [m2, Zfd _ _ _ (by simp; omega), if_pos hk]
    simpa using this
  have hrelD : RelD (w.setCells ab (ao + n * sz) new) G' (.slice (some ⟨ab, ao, none⟩) (n + m) cap) (.osl ex' false sz (es ++ xs)) := by
    refine .osl ab ao (n + m) cap sz (es ++ xs) ex' false (by simp [hn, hm]) hcap (fun hx => by simp at hx) (.inl h0) ?_ ?_
    · intro r hr
      rcases List.mem_append.1 hr with hr | hr
      · exact hszs r hr
      · exact hsz r hr
    · intro hx i r hi
      have hex : ex = false := by rw [hex', Bool.or_eq_false_iff] at hx; exact hx.1
      by_cases hlt' : i < es.length
      · rw [List.getElem?_append_left hlt'] at hi
        exact (hrows hex i r hi).mono later.S later.cell
      · rw [List.getElem?_append_right (by omega)] at hi
        intro j x hj
        obtain ⟨v, q1, q2⟩ := hnew (i - es.length) r j x hi hj
        rw [show n + (i - es.length) = i by omega] at q1
        have hil : i - es.length < m := by rw [hm]; exact (List.getElem?_eq_some_iff.1 hi).1
        have hjl : j < sz := by rw [← hsz r (Yaa hi)]; exact (List.getElem?_eq_some_iff.1 hj).1
        have t1 := Zqr (show i < n + m by omega) hjl
        have t2 : n * sz ≤ i * sz := Nat.mul_le_mul_right _ (by omega)
        refine ⟨.inr ⟨hx, rfl, ?_, ?_⟩, v, ?_, q2⟩
        · show ao + n * sz ≤ ao + i * sz + j; omega
        · show ao + i * sz + j < ao + (n + m) * sz; omega
        · simp only [World.cell?, m1]; simpa using q1
  have hleaf : OwnOK (w.setCells ab (ao + n * sz) new) G'.S ⟨ab, ao, none⟩ sz (n + m) cap ex' (es ++ xs) := by
    refine ⟨⟨rfl, k0.2⟩, arr', elem, fz, m1, by simp only [sz']; exact k2, fun j hj => ?_, fun j hj hs => ?_, fun hx => ⟨fun j hj hs => ?_, fun i r j x hi hj => ?_⟩⟩
    · rw [World.frozen?_setCells]; exact k3 j (by omega)
    · simp only at hj
      rcases hs with hs | ⟨_, _, _, q⟩
      · exact k4 j (by omega) hs
      · simp only [hi] at q; omega
    · simp only at hj
      rcases hs with hs | ⟨q, _⟩
      · rcases Bool.or_eq_true_iff.1 (hex'.symm.trans hx) with hx | hx
        · exact (k5 hx).1 j hj hs
        · have : es = [] := by simpa using hx
          subst this
          exact k4 j (by simp at hn; subst hn; omega) hs
      · rw [hx] at q; simp at q
    · by_cases hlt' : i < es.length
      · rw [List.getElem?_append_left hlt'] at hi
        have hex : ex = true := by
          rcases Bool.or_eq_true_iff.1 (hex'.symm.trans hx) with hx | hx
          · exact hx
          · have : es = [] := by simpa using hx
            subst this; simp at hlt'
        obtain ⟨v, q1, q2⟩ := (k5 hex).2 i r j x hi hj
        have hjl : j < sz := by rw [← hszs r (Yaa hi)]; exact (List.getElem?_eq_some_iff.1 hj).1
        have t1 := Zqr (show i < n by omega) hjl
        exact ⟨v, (hold _ (by simp only; omega)).trans q1, q2.mono later.S later.cell⟩
      · rw [List.getElem?_append_right (by omega)] at hi
        obtain ⟨v, q1, q2⟩ := hnew (i - es.length) r j x hi hj
        rw [show n + (i - es.length) = i by omega] at q1
        exact ⟨v, q1, q2⟩
  have htok2 : ∀ b, tokT b (.slice (some ⟨ab, ao, none⟩) (n + m) cap) (.osl ex' false sz (es ++ xs)) ≤ tokT b (.slice (some ⟨ab, ao, none⟩) n cap) (.osl ex fu sz es) := by
    intro b
    by_cases e : ab = b
    · subst e; rw [htok, Zda rfl]; unfold tok; simp only; split <;> omega
    · rw [Zda rfl, show tok b (.slice (some ⟨ab, ao, none⟩) (n + m) cap) (.osl ex' false sz (es ++ xs)) = 0 from if_neg (fun x => e x.1)]; omega
  have hh' : ∀ b, hsum (w.setCells ab (ao + n * sz) new) b G.ob s.h = hsum w b G.ob s.h := fun b => Zim _ _ (fun i bi o h1 _ => Zht (m3 bi (fun e => hno (e ▸ Yaa h1))))
  refine ⟨G', { L := ?_, P := ?_, len := h.len, nd := h.nd, obS := ?_, H := ?_, S := ?_, one := ?_, noob := ?_, dfr := ?_ }, ⟨later, by omega, fun b hb => .inl hb, fun b _ h0 _ j hs => ?_, fun b _ h0 _ => ?_, fun b _ => ?_, Zs9 w ab _ _⟩⟩
  · refine h.L.keep later (fun b ht => keep b (fun e => ?_))
    subst e; omega
  · refine (h.P.tail.keep later (fun b ht => keep b (fun e => ?_))).cons hrelD ?_
    · subst e; omega
    · rw [Zdu rfl, Zfk rfl]; exact fun _ => hleaf
  · exact fun i b hb => ⟨by rw [m4]; exact (h.obS i b hb).1, fun hd j hs => (h.obS i b hb).2 hd j (hSx b j (fun e => hno (e ▸ Yaa hb)) hs)⟩
  · intro i b o h1 h2
    have hb : b ∈ G.ob := Yaa h1
    refine (h.H i b o h1 h2).keep later (m3 b (fun e => hno (e ▸ hb))) (fun b' ht => keep b' (fun e => ?_))
    subst e
    have := Zsv (w := w) (i := i) b' G.ob s.h i h1 h2
    omega
  · rintro b j (hs | ⟨_, rfl, q1, q2⟩)
    · obtain ⟨u, hu⟩ := h.S b j hs; exact ⟨u, (hcell b j hs).trans hu⟩
    · simp only [hi] at q2
      refine ⟨arr'[j]'(by omega), ?_⟩
      simp only [World.cell?, m1]; simp
  · intro b
    have a1 := h.one b; have a2 := htok2 b
    simp only [sumZ, G', hh' b] at *; omega
  · intro b hb
    have a1 := h.noob b hb; have a2 := htok2 b
    simp only [sumZ, G', hh' b] at *; omega
  · exact h.dfr.keep later (fun b h1 h2 => ⟨m3 b (fun e => by subst e; rw [k1] at h1; cases h1), h2⟩)
  · refine hSx b j (fun e => ?_) hs
    subst e; simp only [cntS, sumZ, htok] at h0; omega
  · refine m3 b (fun e => ?_)
    subst e; simp only [cntS, sumZ, htok] at h0; omega
  · have a2 := htok2 b
    simp only [cntS, sumZ, G', hh' b] at *; omega
end
end Go.Abs
namespace Go.Abs
def Ziv (P : Program) (w : World) (G : Gh) (tm : List Value) (df : List Deferred) (pv : List Value) (pd : List D) (s : St) (o : Oper) (d : D) (s1 : St) : Prop :=
  ∃ w' G' nx v, (execOp (ev tm) o).run P w = .ok nx w' ∧ (nx = .value v ∨ (nx = .skip ∧ v = undef)) ∧ RelSt w' G' tm df (v :: pv) (d :: pd) s1 ∧
    Ext w G (cntS w G tm pv pd s) w' G' (cntS w' G' tm (v :: pv) (d :: pd) s1) ∧ s1.d = s.d ∧ s1.r = s.r
section
variable {P : Program} {w : World} {G : Gh} {tm : List Value} {df : List Deferred} {pv : List Value} {pd : List D} {s : St}
theorem Zhe {t : TypeId} {n : Nat} (h : szOf P t = some n) (w : World) : (sizeOf t).run P w = .ok n w := by
  unfold szOf at h
  cases hi : P.info? t with
  | none => simp [hi] at h
  | some i => simp [hi] at h; simp [sizeOf, typeInfo, hi, h]
theorem Zox {t : TypeId} {n : Nat} (h : Zm6 P t = some n) (w : World) : ∃ i, (typeInfo t).run P w = .ok i w ∧ i.bytes = n := by
  unfold Zm6 at h
  cases hi : P.info? t with
  | none => simp [hi] at h
  | some i => simp [hi] at h; exact ⟨i, by simp [typeInfo, hi], h⟩
theorem Zrl {t : TypeId} {b : Bool} (h : aggT P t = some b) (w : World) : (isAgg t).run P w = .ok b w := by
  unfold aggT at h
  cases hu : P.underlying t with
  | none => simp [hu] at h
  | some d => cases d <;> simp [hu] at h <;> subst h <;> simp [isAgg, run_underlying hu]
theorem Zjh {t : TypeId} {d : D} (h : Zhb P t = some d) (w : World) : ∃ v, (zeroValue t).run P w = .ok v w ∧ ofV v = some d := by
  unfold Zhb at h
  cases hi : P.info? t with
  | none => simp [hi] at h
  | some i =>
    simp only [hi] at h
    cases hz : i.zero with
    | none => simp [hz] at h
    | some v => simp [hz] at h; exact ⟨v, by simp [zeroValue, typeInfo, hi, hz], h⟩
theorem relE_bool {S : Nat → Nat → Prop} {v : Value} {b : Bool} (h : RelE w S v (.bool b)) : v = .bool b := by cases h; rfl
theorem relE_int {S : Nat → Nat → Prop} {v : Value} {k : IntKind} {n : Int} (h : RelE w S v (.int k n)) : v = .int k n := by cases h; rfl
theorem relE_str {S : Nat → Nat → Prop} {v : Value} {b : ByteArray} (h : RelE w S v (.str b)) : v = .string b := by cases h; rfl
theorem Zg8 {v : Value} {x : E} (h : RelD w G v (.e x)) : RelE w G.S v x := by cases h; assumption
theorem Ziz {v : Value} {b : Bool} (h : RelD w G v (.e (.bool b))) : v = .bool b := relE_bool (Zg8 h)
theorem Zgb {v : Value} {k : IntKind} {n : Int} (h : RelD w G v (.e (.int k n))) : v = .int k n := relE_int (Zg8 h)
theorem Zk9 {v : Value} {b : ByteArray} (h : RelD w G v (.e (.str b))) : v = .string b := relE_str (Zg8 h)
theorem Zly {v : Value} {ds : List D} (h : RelD w G v (.agg ds)) : ∃ vs : Array Value, v = .agg vs ∧ vs.size = ds.length ∧ (∀ v ∈ vs.toList, v.oneCell' = true) ∧ ∀ (i : Nat) v d, vs[i]? = some v → ds[i]? = some d → RelD w G v d := by
  cases h with | agg vs ds h1 ho hd => exact ⟨vs, rfl, h1, ho, hd⟩
theorem Zux {v : Value} {ds : List D} (h : RelD w G v (.tup ds)) : ∃ vs : Array Value, v = .tuple vs ∧ vs.size = ds.length ∧ ∀ (i : Nat) v d, vs[i]? = some v → ds[i]? = some d → RelD w G v d := by
  cases h with | tup vs ds h1 hd => exact ⟨vs, rfl, h1, hd⟩
def AdOK (w : World) (G : Gh) (a : Addr) : Ad → Prop
  | .ob i off => ∃ b, G.ob[i]? = some b ∧ a = ⟨b, off, none⟩
  | .ro cs off => ∃ b o, RowE w G.S b o cs ∧ a = ⟨b, o + off, none⟩
theorem Zt9 {v : Value} {d : D} {a : Ad} (h : RelD w G v d) (ha : adOf d = some a) : ∃ x, v = .pointer (some x) ∧ AdOK w G x a := by
  cases d <;> simp [adOf] at ha <;> subst ha
  · cases h with | ptr i off b h => exact ⟨_, rfl, b, h, rfl⟩
  · cases h with | rptr b o off cs h => exact ⟨_, rfl, b, o, h, rfl⟩
theorem adD_rel {x : Addr} {a : Ad} (h : AdOK w G x a) : RelD w G (.pointer (some x)) (adD a) := by
  cases a with
  | ob i off => obtain ⟨b, h1, rfl⟩ := h; exact .ptr i off b h1
  | ro cs off => obtain ⟨b, o, h1, rfl⟩ := h; exact .rptr b o off cs h1
theorem adD_tok (b : Nat) (v : Value) (a : Ad) : tokT b v (adD a) = 0 := by
  cases a <;> (rw [Zda rfl]; unfold tok; split <;> first | rfl | (rename_i h; cases h))
theorem Addr.add_none (b o n : Nat) : (⟨b, o, none⟩ : Addr).add n = ⟨b, o + n, none⟩ := by unfold Addr.add; split <;> simp_all
theorem AdOK.add {x : Addr} {a : Ad} (h : AdOK w G x a) (n : Nat) : AdOK w G (x.add n) (a.add n) := by
  cases a with
  | ob i off => obtain ⟨b, h1, rfl⟩ := h; exact ⟨b, h1, Addr.add_none _ _ _⟩
  | ro cs off => obtain ⟨b, o, h1, rfl⟩ := h; exact ⟨b, o, h1, by rw [Addr.add_none, Nat.add_assoc]⟩
theorem Zen (h : RelSt w G tm df pv pd s) {o : Oper} {v : Value} {d : D} (hr : (execOp (ev tm) o).run P w = .ok (.value v) w) (h1 : RelD w G v d) (h2 : ∀ b, tokT b v d = 0) :
    Ziv P w G tm df pv pd s o d s :=
  ⟨w, G, _, v, hr, .inl rfl, h.dup h1 h2, (Ext.refl w G _).weaken (fun _ => Yab _) (fun b _ => by have := h2 b; simp only [cntS, sumZ]; omega), rfl, rfl⟩
theorem Zl5 (h : RelSt w G tm df pv pd s) {o : Oper} {x : Operand} {d0 : D} {s1 : St} (hx : sh s x = some (d0, s1)) {d : D}
    (k : ∀ G', RelSt w G' tm df pv pd s1 → RelD w G' (ev tm x) d0 → ∃ v, (execOp (ev tm) o).run P w = .ok (.value v) w ∧ RelD w G' v d ∧ ∀ b, tokT b v d = 0) :
    Ziv P w G tm df pv pd s o d s1 := by
  obtain ⟨G', h1, h2, h3, _, h5, h6⟩ := Zon h hx
  obtain ⟨v, hr, k1, k2⟩ := k G' h1.drop h1.P.head.1
  refine ⟨w, G', _, v, hr, .inl rfl, h1.drop.dup k1 k2, h3.weaken (fun _ => Yab _) (fun b hb => ?_), h5, h6⟩
  have := h3.cnt b hb; have := k2 b; have := h2 b
  simp only [cntS, sumZ] at *; omega
theorem Zh3 {v : Value} {d : D} (b : Nat) : cntS w G tm pv pd s b ≤ cntS w G tm (v :: pv) (d :: pd) s b := by simp only [cntS, sumZ]; omega
theorem op_move (h : RelSt w G tm df pv pd s) {rest : List Oper} {o : Oper} {x : Operand} (ho : o.op = .move x) {d : D} {s1 : St} (hx : exOp P rest o s = some (.val d, s1)) : Ziv P w G tm df pv pd s o d s1 := by
  simp only [exOp, ho] at hx
  split at hx
  · simp at hx
    obtain ⟨k1, k2, _, k4, k5⟩ := Zs2 h hx
    exact ⟨w, G, _, ev tm x, by simp [execOp, ho], .inl rfl, k1, (Ext.refl w G _).weaken (fun _ => Yab _) (fun b _ => Nat.le_of_eq (k2 b)), k4, k5⟩
  · simp at hx
    obtain ⟨G', k1, k2, k3, _, k5, k6⟩ := Zon h hx
    exact ⟨w, G', _, ev tm x, by simp [execOp, ho], .inl rfl, k1, k3, k5, k6⟩
theorem op_assign (h : RelSt w G tm df pv pd s) {rest : List Oper} {o : Oper} {x : Operand} (ho : o.op = .assign x) {d : D} {s1 : St} (hx : exOp P rest o s = some (.val d, s1)) : Ziv P w G tm df pv pd s o d s1 := by
  simp only [exOp, ho] at hx
  simp at hx
  obtain ⟨k1, k2, _, k4, k5⟩ := Zs2 h hx
  exact ⟨w, G, _, ev tm x, by simp [execOp, ho], .inl rfl, k1, (Ext.refl w G _).weaken (fun _ => Yab _) (fun b _ => Nat.le_of_eq (k2 b)), k4, k5⟩
theorem op_pick (h : RelSt w G tm df pv pd s) {rest : List Oper} {o : Oper} {c x y : Operand} (ho : o.op = .pick c x y) {d : D} {s1 : St} (hx : exOp P rest o s = some (.val d, s1)) : Ziv P w G tm df pv pd s o d s1 := by
  simp only [exOp, ho] at hx
  split at hx
  · rename_i t hc
    have hb := Ziz (Zh1 h hc)
    simp at hx
    obtain ⟨G', k1, k2, k3, _, k5, k6⟩ := Zon h hx
    refine ⟨w, G', _, ev tm (if t then x else y), ?_, .inl rfl, k1, k3, k5, k6⟩
    cases t <;> simp [execOp, ho, hb, asBool]
  · simp at hx
theorem Ztu (t : TypeId) (v : Value) (w : World) : (newVar t v).run P w = .ok ⟨w.heap.size, 0, none⟩ (w.alloc (.cells v.cells t)) := by
  simp [newVar, newRow]
theorem op_alloc (h : RelSt w G tm df pv pd s) {rest : List Oper} {o : Oper} {t : TypeId} (ho : o.op = .alloc t) {d : D} {s1 : St} (hx : exOp P rest o s = some (.val d, s1)) : Ziv P w G tm df pv pd s o d s1 := by
  simp only [exOp, ho] at hx
  split at hx
  · rename_i z hz
    split at hx
    · rename_i hn
      simp at hx
      obtain ⟨rfl, rfl⟩ := hx
      obtain ⟨v, hv, hv2⟩ := Zjh hz w
      obtain ⟨r1, r2⟩ := Zjp (w := w) (G := G) hv2
      obtain ⟨G', k1, k2⟩ := (h.dup r1 r2).newVar hn t
      refine ⟨_, G', _, _, ?_, .inl rfl, k1, k2.weaken (fun b => ?_) (fun b hb => k2.cnt b hb |> fun q => ?_), rfl, rfl⟩
      · simp [execOp, ho, Instr.alloc, hv, Ztu]
      · have := r2 b; simp only [cntS, sumZ]; omega
      · have := r2 b; simp only [cntS, sumZ] at *; omega
    · simp at hx
  · simp at hx
theorem op_box (h : RelSt w G tm df pv pd s) {rest : List Oper} {o : Oper} {t : TypeId} {x : Operand} (ho : o.op = .box t x) {d : D} {s1 : St} (hx : exOp P rest o s = some (.val d, s1)) : Ziv P w G tm df pv pd s o d s1 := by
  simp only [exOp, ho] at hx
  split at hx
  · rename_i d1 s2 h1
    split at hx
    · rename_i hn
      simp at hx
      obtain ⟨rfl, rfl⟩ := hx
      obtain ⟨k1, k2, k3, k4, k5⟩ := Zs2 h h1
      obtain ⟨G', k6, k7⟩ := k1.newVar hn t
      refine ⟨_, G', _, _, ?_, .inl rfl, k6, k7.weaken (fun b => Nat.le_of_eq (k2 b)) (fun b hb => ?_), k4, k5⟩
      · simp [execOp, ho, Instr.box, Ztu]
      · have := k7.cnt b hb; have := k2 b; omega
    · simp at hx
  · simp at hx
theorem op_store (h : RelSt w G tm df pv pd s) {rest : List Oper} {o : Oper} {t : TypeId} {x y : Operand} (ho : o.op = .store t x y) {d : D} {s1 : St} (hx : exOp P rest o s = some (.val d, s1)) : Ziv P w G tm df pv pd s o d s1 := by
  simp only [exOp, ho] at hx
  split at hx
  · rename_i ad d1 s2 h1 h2
    simp at hx
    obtain ⟨h3, rfl⟩ := hx
    obtain ⟨da, h4, h5⟩ := Option.bind_eq_some_iff.1 h1
    obtain ⟨a, ha, hok⟩ := Zt9 (Zh1 h h4) h5
    obtain ⟨k1, k2, k3, k4, k5⟩ := Zs2 h h2
    unfold Zwj at h3
    split at h3
    · rename_i n hn
      split at h3
      · rename_i hc
        obtain ⟨hc1, hc2⟩ := hc
        split at h3
        · rename_i i off
          split at h3
          · rename_i cs hg
            split at h3
            · rename_i hlen
              simp at h3; subst h3
              obtain ⟨b, hb, rfl⟩ := hok
              have hi := Zio hg
              have kr := k1.P.head.1
              obtain ⟨c1, c2⟩ := Zkp kr hc2
              obtain ⟨q1, q2⟩ := k1.storeCells (off := off) hc2 hi hb (by omega)
              obtain ⟨b0, arr, elem, fz, r1, r2, r3, r4, r5, r6⟩ := k1.cells hi
              rw [hb] at r1; cases r1
              refine ⟨_, G, .skip, undef, ?_, .inr ⟨rfl, rfl⟩, q1.dup (Zi6 _ _) Zep, q2.weaken (fun b => Nat.le_of_eq (k2 b)) (fun b' hb' => ?_), k4, k5⟩
              · have f1 : ∀ j, j < (ev tm y).cells.toList.length → (w.cell? ⟨b, off + 0 + j, none⟩).isSome = true := fun j hj => by
                  simp only [World.cell?, r2]; simp at hj ⊢; omega
                have f2 : ∀ j, j < (ev tm y).cells.toList.length → w.frozen? ⟨b, off + 0 + j, none⟩ = false := fun j hj => r3 (off + 0 + j) (by simp at hj; omega)
                have hst := run_storeCells_cells (P := P) b off (ev tm y).cells.toList 0 w f1 f2 c2
                simp only [Nat.add_zero] at hst
                simp [execOp, ho, ha, Instr.storeAt, Instr.sureAddr, storeVar, Zhe hn, c1, hc1, hst]
              · have := q2.cnt b' hb'; have := k2 b'; have := Zep b'
                simp only [cntS, sumZ] at *; omega
            · simp at h3
          · simp at h3
        · simp at h3
      · simp at h3
    · simp at h3
  · simp at hx
theorem Zyn (h : RelSt w G tm df pv pd s) {rest : List Oper} {o : Oper} {x : Operand} (ho : o.op = .nilCheck x) {d : D} {s1 : St} (hx : exOp P rest o s = some (.val d, s1)) : Ziv P w G tm df pv pd s o d s1 := by
  simp only [exOp, ho] at hx
  split at hx
  · rename_i d0 h1
    have hr := Zh1 h h1
    split at hx <;> simp at hx <;> obtain ⟨rfl, rfl⟩ := hx
    · have e : ∃ a, ev tm x = .pointer (some a) := by generalize ev tm x = v at hr; cases hr; exact ⟨_, rfl⟩
      obtain ⟨a, e⟩ := e
      exact Zen h (v := ev tm x) (by simp [execOp, ho, e]) hr (fun b => by rw [Zda rfl]; unfold tok; split <;> first | rfl | (rename_i q; cases q))
    · have e : ∃ a, ev tm x = .pointer (some a) := by generalize ev tm x = v at hr; cases hr; exact ⟨_, rfl⟩
      obtain ⟨a, e⟩ := e
      exact Zen h (v := ev tm x) (by simp [execOp, ho, e]) hr (fun b => by rw [Zda rfl]; unfold tok; split <;> first | rfl | (rename_i q; cases q))
    · have e : ∃ f a b, ev tm x = .func (.func f) a b := by generalize ev tm x = v at hr; cases hr; exact ⟨_, _, _, rfl⟩
      obtain ⟨f, a, b, e⟩ := e
      exact Zen h (v := ev tm x) (by simp [execOp, ho, e]) hr (fun b => by rw [Zda rfl]; unfold tok; split <;> first | rfl | (rename_i q; cases q))
    · have e : ∃ f, ev tm x = .func (.yield f) #[] #[] := by generalize ev tm x = v at hr; cases hr; exact ⟨_, rfl⟩
      obtain ⟨f, e⟩ := e
      exact Zen h (v := ev tm x) (by simp [execOp, ho, e]) hr (fun b => by rw [Zda rfl]; unfold tok; split <;> first | rfl | (rename_i q; cases q))
  · simp at hx
theorem Zpp {t : TypeId} {fs : List Field} (h : Zlv P t = some fs) : ∃ a : Array Field, P.underlying t = some (.struct a) ∧ a.toList = fs := by
  unfold Zlv at h
  split at h
  · rename_i a h1; simp at h; exact ⟨a, h1, h⟩
  · simp at h
theorem Zx0 (h : RelSt w G tm df pv pd s) {rest : List Oper} {o : Oper} {t : TypeId} {x : Operand} {f : Nat} (ho : o.op = .fieldAddr t x f) {d : D} {s1 : St} (hx : exOp P rest o s = some (.val d, s1)) : Ziv P w G tm df pv pd s o d s1 := by
  simp only [exOp, ho] at hx
  split at hx
  · rename_i d0 h1
    simp at hx
    obtain ⟨d', h2, rfl, rfl⟩ := hx
    unfold Zaa at h2
    split at h2
    · rename_i fs a hfs had
      split at h2
      · rename_i fl hfl
        split at h2
        · rename_i n hn
          split at h2
          · simp at h2
          · rename_i hn0
            simp at h2; subst h2
            obtain ⟨arr, hu, rfl⟩ := Zpp hfs
            obtain ⟨x', hx', hok⟩ := Zt9 (Zh1 h h1) had
            have hfl' : arr[f]? = some fl := by simpa using hfl
            refine Zen h ?_ (adD_rel (hok.add fl.offset)) (fun b => adD_tok b _ _)
            simp [execOp, ho, hx', Instr.fieldAt, run_underlying hu, hfl', Instr.sureAddr, fieldPlace, Zhe hn, hn0]
        · simp at h2
      · simp at h2
    · simp at h2
  · simp at hx
theorem Zro {t : TypeId} {vs : Array Value} {ds : List D} {off : Nat} {d : D} (h1 : vs.size = ds.length) (ho : ∀ v ∈ vs.toList, v.oneCell' = true)
    (hd : ∀ (i : Nat) v d, vs[i]? = some v → ds[i]? = some d → RelD w G v d) (hp : Zyl P t ds off = some d) (hown : ds.any own0 = false) :
    ∃ v, (part t vs off).run P w = .ok v w ∧ RelD w G v d ∧ ownD d = false := by
  have hall : ∀ x ∈ ds, own0 x = false := by simpa using hown
  unfold Zyl at hp
  split at hp
  · rename_i ha
    simp at hp
    obtain ⟨n, hn, rfl⟩ := hp
    refine ⟨_, by simp [part, Zrl ha, Zhe hn]; rfl, .agg _ _ ?_ ?_ ?_, ?_⟩
    · simp; omega
    · intro v hv
      simp at hv
      exact ho v (List.mem_of_mem_drop (List.mem_of_mem_take hv))
    · intro i v d hi hd'
      rw [Array.getElem?_extract] at hi
      rw [Yad] at hd'
      split at hd'
      · rw [Yac] at hd'
        split at hi
        · exact hd _ v d hi hd'
        · simp at hi
      · simp at hd'
    · simp only [ownD, ownA, List.any_eq_false]
      intro x hx
      simp [hall x (List.mem_of_mem_drop (List.mem_of_mem_take hx))]
  · rename_i ha
    have hlt : off < vs.size := by rw [h1]; exact (List.getElem?_eq_some_iff.1 hp).1
    have hv : vs[off]? = some vs[off] := Array.getElem?_eq_getElem hlt
    refine ⟨vs[off], by simp [part, Zrl ha, hv], hd off _ d hv hp, ?_⟩
    have hv1 := hall d (Yaa hp)
    have r := hd off _ d hv hp
    have one := ho vs[off] (by simp)
    generalize vs[off] = v at r one
    cases d <;> simp_all [ownD, ownA]
    · cases r; simp_all [Value.oneCell']
    · cases r; simp_all [Value.oneCell']
  · simp at hp
end
end Go.Abs
namespace Go.Abs
section
variable {P : Program} {w : World} {G : Gh} {tm : List Value} {df : List Deferred} {pv : List Value} {pd : List D} {s : St}
theorem Zpq {α : Type} (l a b : List α) (off : Nat) (h : off + a.length ≤ l.length) (e : a.length = b.length) : Ziy (Ziy l off a) off b = Ziy l off b := by
  apply List.ext_getElem?; intro i
  have hl := Zgl l a off h
  rw [Zfd _ _ _ (by omega), Zfd _ _ _ h, Zfd _ b _ (by omega)]
  by_cases h1 : i < off
  · simp only [if_pos h1]
  · simp only [if_neg h1]
    by_cases h2 : i < off + b.length
    · simp only [if_pos h2]
    · simp only [if_neg h2]; rw [if_neg (by omega)]
theorem sumZ_mid (f : Value → D → Nat) (l : List Value) (cs ds : List D) (off n : Nat) (hl : cs.length ≤ l.length) (hn : off + n ≤ cs.length) (hd : ds.length = n) :
    sumZ f l (Ziy cs off ds) + sumZ f ((l.drop off).take n) ((cs.drop off).take n) = sumZ f l cs + sumZ f ((l.drop off).take n) ds := by
  have h1 : ((l.drop off).take n).length = n := by simp; omega
  have := Zou f l ((l.drop off).take n) cs ds off hl (by omega) (by omega)
  rwa [Zli _ _ _ (by omega), h1] at this
theorem RelSt.takeCells (h : RelSt w G tm df pv pd s) {i b off n : Nat} {cs ds : List D} (hi : s.h[i]? = some (.cells cs)) (hb : G.ob[i]? = some b) {arr : Array Value} {elem : TypeId} {fz : Nat × Nat}
    (ha : w.heap[b]? = some (.cells arr elem fz)) (hn : off + n ≤ cs.length) {v : Value} {d : D} (hnt : notTup d = true) (hv : v.cells.toList = (arr.toList.drop off).take n) (hd : cellsOf d = (cs.drop off).take n)
    (hr : RelD w G v d) (hl : LeafT w G.S v d) (hds : ds.length = n) (hk : ∀ (k : Nat) u e e', arr[off + k]? = some u → cs[off + k]? = some e → ds[k]? = some e' → RelD w G u e → RelD w G u e' ∧ ∀ b, tok b u e' = 0) :
    RelSt w G tm df (v :: pv) (d :: pd) { s with h := s.h.set i (.cells (Zfg cs off ds)) } ∧ ∀ b', cntS w G tm (v :: pv) (d :: pd) { s with h := s.h.set i (.cells (Zfg cs off ds)) } b' ≤ cntS w G tm pv pd s b' := by
  obtain ⟨b0, arr0, elem0, fz0, q1, q2, q3, q4, q5, q6⟩ := h.cells hi
  rw [hb] at q1; cases q1; rw [ha] at q2; cases q2
  have hz : ∀ b', sumZ (tok b') ((arr.toList.drop off).take n) ds = 0 := by
    intro b'
    refine Zhd _ _ _ (fun k u e hu he => ?_)
    have hkn : k < n := by rw [← hds]; exact (List.getElem?_eq_some_iff.1 he).1
    rw [Yad, if_pos hkn, Yac] at hu
    have hu' : arr[off + k]? = some u := by simpa using hu
    have hc : cs[off + k]? = some cs[off + k] := List.getElem?_eq_getElem (by omega)
    exact (hk k u _ e hu' hc he (q6 _ _ _ hu' hc).1).2 b'
  have hsum : ∀ b', sumZ (tok b') arr.toList (Zfg cs off ds) + tokT b' v d ≤ sumZ (tok b') arr.toList cs := by
    intro b'
    have e1 := sumZ_mid (tok b') arr.toList cs ds off n (by simpa using q4) hn hds
    have e2 := Zo1 hr hnt b'
    rw [hv, hd] at e2
    have e3 := hz b'
    rw [Zg2]; omega
  have hpt : ∀ (k : Nat) u e, arr[k]? = some u → (Zfg cs off ds)[k]? = some e → RelD w G u e ∧ Leaf0 w G.S u e := by
    intro k u e hu he
    rw [Zg2, Zfd _ _ _ (by omega)] at he
    split at he
    · exact q6 k u e hu he
    · split at he
      · rename_i h1 h2
        have hu' : arr[off + (k - off)]? = some u := by rw [show off + (k - off) = k by omega]; exact hu
        have hc : cs[off + (k - off)]? = some (cs[off + (k - off)]'(by omega)) := List.getElem?_eq_getElem (by omega)
        obtain ⟨r1, r2⟩ := hk (k - off) u _ e hu' hc he (q6 _ _ _ hu' hc).1
        exact ⟨r1, Zm4 r2⟩
      · exact q6 k u e hu he
  obtain ⟨k1, k2⟩ := (h.dup (Zi6 w G) Zep).reCells (v' := v) (d' := d) (cs' := Zfg cs off ds) hi hb ha (by rw [Zg2, Zgl _ _ _ (by omega)]) hpt ⟨hr, hl⟩ (fun b' => by have := hsum b'; have := Zep b'; omega)
  refine ⟨k1, fun b' => ?_⟩
  have := k2 b'; have := Zep b'
  simp only [cntS, sumZ] at *; omega
theorem RelSt.putCells {v : Value} {d : D} (h : RelSt w G tm df (v :: pv) (d :: pd) s) {i b off n : Nat} {cs : List D} (hi : s.h[i]? = some (.cells cs)) (hb : G.ob[i]? = some b) {arr : Array Value} {elem : TypeId} {fz : Nat × Nat}
    (ha : w.heap[b]? = some (.cells arr elem fz)) (hn : off + n ≤ cs.length) (hnt : notTup d = true) (hv : v.cells.toList = (arr.toList.drop off).take n) (hd : (cellsOf d).length = n) :
    RelSt w G tm df pv pd { s with h := s.h.set i (.cells (Zfg cs off (cellsOf d))) } ∧ ∀ b', cntS w G tm pv pd { s with h := s.h.set i (.cells (Zfg cs off (cellsOf d))) } b' ≤ cntS w G tm (v :: pv) (d :: pd) s b' := by
  obtain ⟨b0, arr0, elem0, fz0, q1, q2, q3, q4, q5, q6⟩ := h.cells hi
  rw [hb] at q1; cases q1; rw [ha] at q2; cases q2
  obtain ⟨kr, kl⟩ := h.P.head
  have hsum : ∀ b', sumZ (tok b') arr.toList (Zfg cs off (cellsOf d)) ≤ sumZ (tok b') arr.toList cs + tokT b' v d := by
    intro b'
    have e1 := sumZ_mid (tok b') arr.toList cs (cellsOf d) off n (by simpa using q4) hn hd
    have e2 := Zo1 kr hnt b'
    rw [hv] at e2
    rw [Zg2]; omega
  have hpt : ∀ (k : Nat) u e, arr[k]? = some u → (Zfg cs off (cellsOf d))[k]? = some e → RelD w G u e ∧ Leaf0 w G.S u e := by
    intro k u e hu he
    rw [Zg2, Zfd _ _ _ (by omega)] at he
    split at he
    · exact q6 k u e hu he
    · split at he
      · rename_i h1 h2
        have hu' : v.cells.toList[k - off]? = some u := by
          rw [hv, Yad, if_pos (by omega), Yac, show off + (k - off) = k by omega]; simpa using hu
        exact Zo2 kr kl hnt (k - off) u e (by simpa using hu') he
      · exact q6 k u e hu he
  obtain ⟨k1, k2⟩ := h.reCells (v' := undef) (d' := Zaw) (cs' := Zfg cs off (cellsOf d)) hi hb ha (by rw [Zg2, Zgl _ _ _ (by omega)]) hpt ⟨Zi6 w G, Zga Zep⟩ (fun b' => by have := hsum b'; have := Zep b'; omega)
  exact ⟨k1.drop, fun b' => Nat.le_trans (Zh3 b') (k2 b')⟩
theorem Znn {t : TypeId} {a : Addr} {v : Value} (ha : aggT P t = some false) (hc : w.cell? a = some v) : (loadVar t a).run P w = .ok v w := by
  simp [loadVar, Zrl ha, hc]
theorem Zno {t : TypeId} {n b off : Nat} {us : List Value} (hs : szOf P t = some n) (ha : aggT P t = some true)
    (hl : us.length = n) (hc : ∀ (j : Nat) u, us[j]? = some u → w.cell? ⟨b, off + j, none⟩ = some u) :
    (loadVar t ⟨b, off, none⟩).run P w = .ok (.agg us.toArray) w := by
  have := run_loadCells_list (P := P) w ⟨b, off, none⟩ us (fun j v hj => by rw [Addr.add_none]; exact hc j v hj)
  rw [hl] at this
  simp [loadVar, Zrl ha, Zhe hs, this]
theorem notTup_shr {d : D} (h : notTup d = true) : notTup (shr d) = true := by
  cases d <;> simp_all [notTup, shr, shr0]
  rename_i ex fu sz es; cases fu <;> rfl
theorem notTup_kep {d : D} (h : notTup d = true) : notTup (kep d) = true := by cases d <;> simp_all [notTup, kep, kep0]
theorem Zxo {d : D} (h : notTup d = true) : cellsOf (kep d) = (cellsOf d).map kep0 := by
  cases d <;> simp_all [notTup, kep, cellsOf, kep0]
theorem load_ob (h : RelSt w G tm df pv pd s) {i off n : Nat} {cs : List D} (hi : s.h[i]? = some (.cells cs)) (hn : off + n ≤ cs.length) (take : Bool) {d : D} (hnt : notTup d = true) (hd : cellsOf d = (cs.drop off).take n)
    (hag : d = .agg ((cs.drop off).take n) ∨ (flat d = true)) :
    ∃ b v G', G.ob[i]? = some b ∧ (∀ (j : Nat) u, v.cells[j]? = some u → w.cell? ⟨b, off + j, none⟩ = some u) ∧ v.cells.size = n ∧ (∀ ds, d = .agg ds → ∃ vs, v = .agg vs) ∧ (flat d = true → v.cells = #[v]) ∧
      RelSt w G' tm df (v :: pv) ((if take then d else shr d) :: pd) { s with h := s.h.set i (.cells (Zfg cs off ((cellsOf d).map (if take then Zh7 else kep0)))) } ∧
      Ext w G (cntS w G tm pv pd s) w G' (cntS w G' tm (v :: pv) ((if take then d else shr d) :: pd) { s with h := s.h.set i (.cells (Zfg cs off ((cellsOf d).map (if take then Zh7 else kep0)))) }) := by
  obtain ⟨b, arr, elem, fz, q1, q2, q3, q4, q5, q6⟩ := h.cells hi
  have hv : ∃ v : Value, v.cells.toList = (arr.toList.drop off).take n ∧ RelD w G v d ∧ LeafT w G.S v d ∧ (∀ ds, d = .agg ds → ∃ vs, v = .agg vs) ∧ (flat d = true → v.cells = #[v]) := by
    have hpt : ∀ (k : Nat) u e, ((arr.toList.drop off).take n)[k]? = some u → ((cs.drop off).take n)[k]? = some e → RelD w G u e ∧ Leaf0 w G.S u e := by
      intro k u e hu he
      rw [Yad] at hu he
      split at hu
      · rename_i hk
        rw [if_pos hk] at he
        rw [Yac] at hu he
        exact q6 _ u e (by simpa using hu) he
      · simp at hu
    rcases hag with rfl | hf
    · refine ⟨.agg ((arr.toList.drop off).take n).toArray, by simp [Value.cells], .agg _ _ (by simp; omega) (fun v hv => by
        obtain ⟨k, hk⟩ := List.getElem?_of_mem (show v ∈ (arr.toList.drop off).take n by simpa using hv)
        rw [Yad] at hk
        split at hk
        · rw [Yac] at hk
          exact q5 (off + k) v (by omega) (by simpa using hk)
        · simp at hk) (fun k u e hu he => (hpt k u e (by simpa using hu) he).1), ?_, fun _ _ => ⟨_, rfl⟩, fun hf => by simp [flat] at hf⟩
      rw [Zdu rfl]
      exact fun k u e hu he => (hpt k u e (by simpa using hu) he).2
    · have e2 : cellsOf d = [d] := by cases d <;> simp_all [flat, cellsOf]
      rw [e2] at hd
      have hn1 : n = 1 := by
        have h1 := congrArg List.length hd
        simp at h1; omega
      have hlt : off < arr.size := by omega
      have hd0 : cs[off]? = some d := by
        have := congrArg (·[0]?) hd
        subst hn1
        simp at this; exact this.symm
      have hv0 : arr[off]? = some arr[off] := Array.getElem?_eq_getElem hlt
      obtain ⟨r1, r2⟩ := q6 off _ d hv0 hd0
      have one := r1.one hf
      have e1 : (arr[off]).cells = #[arr[off]] := by
        generalize arr[off] = u at one
        cases u <;> simp_all [Value.oneCell', Value.cells]
      refine ⟨arr[off], ?_, r1, ?_, fun ds e => by subst e; simp [flat] at hf, fun _ => e1⟩
      · rw [e1]; subst hn1
        apply List.ext_getElem?; intro k
        rw [Yad]
        cases k with
        | zero => simp [hlt]
        | succ k => simp
      · rw [Zdu hnt, Zfk hf]; exact r2
  obtain ⟨v, hv, hr, hl, ha1, ha2⟩ := hv
  have hlen : (cellsOf d).length = n := by rw [hd]; simp; omega
  have hvs : v.cells.size = n := by
    have := congrArg List.length hv
    simp at this; omega
  have hcell : ∀ (j : Nat) u, v.cells[j]? = some u → w.cell? ⟨b, off + j, none⟩ = some u := by
    intro j u hj
    have hj' : v.cells.toList[j]? = some u := by simpa using hj
    rw [hv, Yad] at hj'
    split at hj'
    · rw [Yac] at hj'
      simp only [World.cell?, q2]; simpa using hj'
    · simp at hj'
  have hcsk : ∀ (k : Nat) e e', cs[off + k]? = some e → ((cellsOf d).map Zh7)[k]? = some e' → e' = Zh7 e := by
    intro k e e' he he'
    rw [hd, List.getElem?_map, Yad] at he'
    split at he'
    · rw [Yac, he] at he'
      simp at he'; exact he'.symm
    · simp at he'
  have hk0 : ∀ (k : Nat) u e e', arr[off + k]? = some u → cs[off + k]? = some e → ((cellsOf d).map Zh7)[k]? = some e' → RelD w G u e → RelD w G u e' ∧ ∀ b, tok b u e' = 0 := by
    intro k u e e' hu he he' hue
    rw [hcsk k e e' he he']
    exact ⟨Zpx hue, fun b => Zrz b hue⟩
  obtain ⟨t1, t2⟩ := h.takeCells (ds := (cellsOf d).map Zh7) hi q1 q2 hn hnt hv hd hr hl (by simp [hlen]) hk0
  cases take with
  | true =>
    refine ⟨b, v, G, q1, hcell, hvs, ha1, ha2, ?_, ?_⟩
    · simpa using t1
    · refine (Ext.refl w G _).weaken (fun _ => Yab _) (fun b' _ => ?_)
      simpa using t2 b'
  | false =>
    obtain ⟨z1, z2, z3, z4⟩ := t1.toSeal hnt
    have hlt : i < s.h.length := (List.getElem?_eq_some_iff.1 hi).1
    have e1 : ({ s with h := s.h.set i (.cells (Zfg cs off ((cellsOf d).map Zh7))) } : St).h[i]? = some (.cells (Zfg cs off ((cellsOf d).map Zh7))) := by
      simp only; rw [List.getElem?_set_self hlt]
    obtain ⟨p1, p2⟩ := z1.putCells (n := n) e1 (show (Zni G v d).ob[i]? = some b from q1) q2 (by rw [Zg2, Zgl _ _ _ (by simp; omega)]; exact hn) (notTup_kep hnt) hv (by rw [Zxo hnt]; simp [hlen])
    have e2 : ({ ({ s with h := s.h.set i (.cells (Zfg cs off ((cellsOf d).map Zh7))) } : St) with h := (s.h.set i (.cells (Zfg cs off ((cellsOf d).map Zh7)))).set i (.cells (Zfg (Zfg cs off ((cellsOf d).map Zh7)) off (cellsOf (kep d)))) } : St) =
        { s with h := s.h.set i (.cells (Zfg cs off ((cellsOf d).map kep0))) } := by
      rw [Zxo hnt]
      simp only [Zg2, List.set_set]
      rw [Zpq _ _ _ _ (by simp; omega) (by simp)]
    rw [e2] at p1 p2
    refine ⟨b, v, Zni G v d, q1, hcell, hvs, ha1, ha2, ?_, ?_⟩
    · simpa using p1.dup z3 z4
    · refine z2.weaken t2 (fun b' hb' => ?_)
      have a1 := z2.cnt b' hb'; have a2 := t2 b'; have a3 := p2 b'; have a4 := z4 b'
      simp only [cntS, sumZ] at *
      simp only [Bool.false_eq_true, if_false]
      omega
theorem Zn2 {ds : List D} (h : ds.any own0 = false) : ds.map kep0 = ds ∧ ds.map Zh7 = ds ∧ ds.map shr0 = ds := by
  have hall : ∀ x ∈ ds, own0 x = false := by simpa using h
  have f : ∀ x ∈ ds, kep0 x = x ∧ Zh7 x = x ∧ shr0 x = x := by
    intro x hx
    have := hall x hx
    cases x <;> simp_all [own0, kep0, Zh7, shr0]
  refine ⟨?_, ?_, ?_⟩
  · exact (List.map_congr_left (fun x hx => (f x hx).1)).trans (List.map_id _)
  · exact (List.map_congr_left (fun x hx => (f x hx).2.1)).trans (List.map_id _)
  · exact (List.map_congr_left (fun x hx => (f x hx).2.2)).trans (List.map_id _)
theorem Zrk {α : Type} {l : List α} {i : Nat} {a : α} (h : l[i]? = some a) : l.set i a = l := by
  apply List.ext_getElem?; intro k
  by_cases e : i = k
  · subst e; rw [List.getElem?_set]; simp [h]; exact (List.getElem?_eq_some_iff.1 h).1
  · rw [List.getElem?_set_ne e]
theorem Zx5 (h : RelSt w G tm df pv pd s) {t : TypeId} {a : Ad} {take : Bool} {x : Addr} (hok : AdOK w G x a) {d : D} {s1 : St} (hx : Zn3 P s t a take = some (d, s1)) :
    ∃ v G', (loadVar t x).run P w = .ok v w ∧ RelSt w G' tm df (v :: pv) (d :: pd) s1 ∧ Ext w G (cntS w G tm pv pd s) w G' (cntS w G' tm (v :: pv) (d :: pd) s1) ∧ s1.d = s.d ∧ s1.r = s.r ∧ s1.t = s.t ∧ notTup d = true := by
  unfold Zn3 at hx
  split at hx
  · rename_i n ag hs ha
    split at hx
    · rename_i cs off
      obtain ⟨b, o, hrow, rfl⟩ := hok
      split at hx
      · rename_i hn
        cases ag with
        | true =>
          simp only [Option.some.injEq, Prod.mk.injEq] at hx
          obtain ⟨rfl, rfl⟩ := hx
          have hval : ∀ j, j < n → ∃ u, w.cell? ⟨b, o + off + j, none⟩ = some u ∧ RelE w G.S u (cs[off + j]?.getD .nilptr) := by
            intro j hj
            have hc : cs[off + j]? = some (cs[off + j]'(by omega)) := List.getElem?_eq_getElem (by omega)
            obtain ⟨_, u, h1, h2⟩ := hrow _ _ hc
            exact ⟨u, by rw [Nat.add_assoc]; exact h1, by rw [hc]; exact h2⟩
          let us := (List.range n).map fun j => (w.cell? ⟨b, o + off + j, none⟩).getD undef
          have hus : ∀ (j : Nat) u, us[j]? = some u → w.cell? ⟨b, o + off + j, none⟩ = some u ∧ ∀ e, cs[off + j]? = some e → RelE w G.S u e := by
            intro j u hj
            have hjn : j < n := by have := (List.getElem?_eq_some_iff.1 hj).1; simpa [us] using this
            obtain ⟨u', h1, h2⟩ := hval j hjn
            simp only [us, List.getElem?_map, List.getElem?_range hjn, Option.map_some, h1, Option.getD_some] at hj
            simp at hj; subst hj
            exact ⟨h1, fun e he => by rw [he] at h2; exact h2⟩
          have hl : us.length = n := by simp [us]
          have hrel : RelD w G (.agg us.toArray) (.agg (((cs.drop off).take n).map .e)) := by
            refine .agg _ _ (by simp [hl]; omega) (fun v hv => ?_) (fun j u e hu he => ?_)
            · obtain ⟨j, hj⟩ := List.getElem?_of_mem (show v ∈ us by simpa using hv)
              have hjn : j < n := by rw [← hl]; exact (List.getElem?_eq_some_iff.1 hj).1
              exact ((hus j v hj).2 _ (List.getElem?_eq_getElem (show off + j < cs.length by omega))).one
            · rw [List.getElem?_map, Yad] at he
              split at he
              · rw [Yac] at he
                cases hc : cs[off + j]? with
                | none => simp [hc] at he
                | some x => simp [hc] at he; subst he; exact .e _ _ ((hus j u (by simpa using hu)).2 x hc)
              · simp at he
          have htok : ∀ b', tokT b' (.agg us.toArray) (.agg (((cs.drop off).take n).map .e)) = 0 := fun b' => Zhc hrel (by
            simp only [ownD, ownA, List.any_eq_false]
            intro x hx; obtain ⟨y, _, rfl⟩ := List.mem_map.1 hx; simp [own0])
          exact ⟨_, G, Zno hs ha hl (fun j u hj => (hus j u hj).1), h.dup hrel htok, (Ext.refl w G _).weaken (fun _ => Yab _) (fun b' _ => by have := htok b'; simp only [cntS, sumZ]; omega), rfl, rfl, rfl, rfl⟩
        | false =>
          simp only at hx
          split at hx
          · rename_i e he
            simp only [Option.some.injEq, Prod.mk.injEq] at hx
            obtain ⟨rfl, rfl⟩ := hx
            obtain ⟨_, u, h1, h2⟩ := hrow _ _ he
            have htok : ∀ b', tokT b' u (.e e) = 0 := fun b' => Zhc (.e u e h2) rfl
            exact ⟨u, G, Znn ha h1, h.dup (.e _ _ h2) htok, (Ext.refl w G _).weaken (fun _ => Yab _) (fun b' _ => by have := htok b'; simp only [cntS, sumZ]; omega), rfl, rfl, rfl, rfl⟩
          · simp at hx
      · simp at hx
    · rename_i i off
      split at hx
      · rename_i cs hg
        have hi := Zio hg
        obtain ⟨b, hb, rfl⟩ := hok
        split at hx
        · rename_i hn
          cases ag with
          | true =>
            simp only at hx
            obtain ⟨b', v, G', k1, k2, k3, k4, k5, k6, k7⟩ := load_ob h hi hn take (d := .agg ((cs.drop off).take n)) rfl rfl (.inl rfl)
            rw [hb] at k1; cases k1
            obtain ⟨vs, rfl⟩ := k4 _ rfl
            have hrun : (loadVar t ⟨b, off, none⟩).run P w = .ok (.agg vs) w := by
              have := Zno (P := P) (w := w) (b := b) (off := off) (us := vs.toList) hs ha (by simpa [Value.cells] using k3) (fun j u hj => k2 j u (by simpa [Value.cells] using hj))
              simpa using this
            simp only [cellsOf] at k6 k7
            split at hx
            · rename_i hown
              simp only [Option.some.injEq, Prod.mk.injEq] at hx
              obtain ⟨rfl, rfl⟩ := hx
              cases take
              · simp only [Bool.false_eq_true, if_false] at k6 k7 ⊢
                exact ⟨_, G', hrun, k6, k7, by trivial, by trivial, by trivial, rfl⟩
              · simp only [if_true] at k6 k7 ⊢
                exact ⟨_, G', hrun, k6, k7, by trivial, by trivial, by trivial, rfl⟩
            · rename_i hown
              simp only [Option.some.injEq, Prod.mk.injEq] at hx
              obtain ⟨rfl, rfl⟩ := hx
              obtain ⟨m1, m2, m3⟩ := Zn2 (show ((cs.drop off).take n).any own0 = false by simpa using hown)
              have e1 : ∀ f : D → D, ((cs.drop off).take n).map f = (cs.drop off).take n → ({ s with h := s.h.set i (.cells (Zfg cs off (((cs.drop off).take n).map f))) } : St) = s := by
                intro f hf
                rw [hf, Zg2, Zli _ _ _ hn, Zrk hi]
              cases take
              · simp only [Bool.false_eq_true, if_false, shr] at k6 k7
                rw [e1 _ m1, m3] at k6 k7
                exact ⟨_, G', hrun, k6, k7, by trivial, by trivial, by trivial, rfl⟩
              · simp only [if_true] at k6 k7
                rw [e1 _ m2] at k6 k7
                exact ⟨_, G', hrun, k6, k7, by trivial, by trivial, by trivial, rfl⟩
          | false =>
            simp only at hx
            split at hx
            · rename_i d0 hd0
              have hlt : off < cs.length := (List.getElem?_eq_some_iff.1 hd0).1
              obtain ⟨b1, arr, elem, fz, r1, r2, r3, r4, r5, r6⟩ := h.cells hi
              rw [hb] at r1; cases r1
              have hfl : flat d0 = true := by
                have hv0 : arr[off]? = some (arr[off]'(by omega)) := Array.getElem?_eq_getElem (by omega)
                have r := (r6 off _ d0 hv0 hd0).1
                have one := r5 off (arr[off]'(by omega)) hlt hv0
                clear r5
                generalize arr[off]'(by omega) = u at r one
                cases d0 <;> simp_all [flat]
                · cases r; simp_all [Value.oneCell']
                · cases r; simp_all [Value.oneCell']
              have hnt : notTup d0 = true := by cases d0 <;> simp_all [flat, notTup]
              have hc1 : cellsOf d0 = (cs.drop off).take 1 := by
                have : cellsOf d0 = [d0] := by cases d0 <;> simp_all [flat, cellsOf]
                rw [this]
                apply List.ext_getElem?; intro k
                rw [Yad]
                cases k with
                | zero => simp [hd0]
                | succ k => simp
              have hc2 : cellsOf d0 = [d0] := by cases d0 <;> simp_all [flat, cellsOf]
              obtain ⟨b', v, G', k1, k2, k3, k4, k5, k6, k7⟩ := load_ob h hi (n := 1) (by omega) take (d := d0) hnt hc1 (.inr hfl)
              rw [hb] at k1; cases k1
              have hrun : (loadVar t ⟨b, off, none⟩).run P w = .ok v w := by
                refine Znn ha ?_
                have := k2 0 v (by rw [k5 hfl]; rfl)
                simpa using this
              rw [hc2] at k6 k7
              have hsh : shr d0 = shr0 d0 := by cases d0 <;> simp_all [flat, shr]
              rw [hsh] at k6 k7
              split at hx
              · rename_i hown
                simp only [Option.some.injEq, Prod.mk.injEq] at hx
                obtain ⟨rfl, rfl⟩ := hx
                cases take
                · simp only [Bool.false_eq_true, if_false, List.map_cons, List.map_nil] at k6 k7 ⊢
                  exact ⟨_, G', hrun, k6, k7, by trivial, by trivial, by trivial, by rw [← hsh]; exact notTup_shr hnt⟩
                · simp only [if_true, List.map_cons, List.map_nil] at k6 k7 ⊢
                  exact ⟨_, G', hrun, k6, k7, by trivial, by trivial, by trivial, hnt⟩
              · rename_i hown
                simp only [Option.some.injEq, Prod.mk.injEq] at hx
                obtain ⟨rfl, rfl⟩ := hx
                obtain ⟨m1, m2, m3⟩ := Zn2 (ds := [d0]) (by simpa using hown)
                have e1 : ∀ f : D → D, [d0].map f = [d0] → ({ s with h := s.h.set i (.cells (Zfg cs off ([d0].map f))) } : St) = s := by
                  intro f hf
                  rw [hf, ← hc2, hc1, Zg2, Zli _ _ _ (by omega), Zrk hi]
                have m3' : shr0 d0 = d0 := by simpa using m3
                cases take
                · simp only [Bool.false_eq_true, if_false] at k6 k7
                  rw [e1 _ m1, m3'] at k6 k7
                  exact ⟨_, G', hrun, k6, k7, by trivial, by trivial, by trivial, hnt⟩
                · simp only [if_true] at k6 k7
                  rw [e1 _ m2] at k6 k7
                  exact ⟨_, G', hrun, k6, k7, by trivial, by trivial, by trivial, hnt⟩
            · simp at hx
        · simp at hx
      · simp at hx
  · simp at hx
theorem op_load (h : RelSt w G tm df pv pd s) {rest : List Oper} {o : Oper} {t : TypeId} {x : Operand} (ho : o.op = .load t x) {d : D} {s1 : St} (hx : exOp P rest o s = some (.val d, s1)) : Ziv P w G tm df pv pd s o d s1 := by
  simp only [exOp, ho] at hx
  split at hx
  · rename_i ad h1
    obtain ⟨da, h4, h5⟩ := Option.bind_eq_some_iff.1 h1
    obtain ⟨a, ha, hok⟩ := Zt9 (Zh1 h h4) h5
    simp at hx
    obtain ⟨v, G', k1, k2, k3, k4, k5, _, _⟩ := Zx5 h hok hx
    exact ⟨w, G', _, v, by simp [execOp, ho, Instr.loadAt, ha, Instr.sureAddr, k1], .inl rfl, k2, k3, k4, k5⟩
  · simp at hx
end
end Go.Abs
