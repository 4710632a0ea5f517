/-
  THE OPERATIONS, ONE BY ONE: append, and conversions between texts and bytes. THE OPERATIONS, ONE BY ONE: conversions, length, least and greatest, panics. No condition.
-/
import Derived.Test.YtkimilghfbgjmaaP06
import Derived.Laws.BytesString

namespace Go.Abs

section
variable {P : Program} {w : World} {G : Gh} {tm : List Value} {df : List Deferred} {pv : List Value} {pd : List D} {s : St}

/-- The cells of rows that lie in memory, as a list. -/
theorem load_rows {b o sz : Nat} {es : List (List E)} (hsz : ∀ r ∈ es, r.length = sz)
    (hc : ∀ i r j x, es[i]? = some r → r[j]? = some x → ∃ v, w.cell? ⟨b, o + i * sz + j, none⟩ = some v ∧ RelE w G.S v x) :
    ∃ new : List Value, (loadCells ⟨b, o, none⟩ (es.length * sz)).run P w = .ok new.toArray w ∧ new.length = es.length * sz ∧ Holds w G.S new sz es ∧ ∀ v ∈ new, v.oneCell' = true := by
  have hk : ∀ k, k < es.length * sz → ∃ v x, w.cell? ⟨b, o + k, none⟩ = some v ∧ RelE w G.S v x := by
    intro k hk
    have hpos : 0 < sz := by
      rcases Nat.eq_zero_or_pos sz with h | h
      · subst h; simp at hk
      · exact h
    have hi : k / sz < es.length := by rw [Nat.div_lt_iff_lt_mul hpos]; exact hk
    have hr : es[k / sz]? = some es[k / sz] := List.getElem?_eq_getElem hi
    have hj : k % sz < (es[k / sz]).length := by rw [hsz _ (List.getElem_mem hi)]; exact Nat.mod_lt _ hpos
    obtain ⟨v, h1, h2⟩ := hc _ _ _ _ hr (List.getElem?_eq_getElem hj)
    refine ⟨v, _, ?_, h2⟩
    rw [← h1]
    have := Nat.div_add_mod k sz
    congr 2
    rw [Nat.mul_comm] at this; omega
  let new := (List.range (es.length * sz)).map fun k => (w.cell? ⟨b, o + k, none⟩).getD undef
  have hl : new.length = es.length * sz := by simp [new]
  have hget : ∀ k, k < es.length * sz → new[k]? = w.cell? ⟨b, o + k, none⟩ := by
    intro k hk'
    obtain ⟨v, x, h1, _⟩ := hk k hk'
    simp [new, hk', h1]
  refine ⟨new, ?_, hl, ?_, ?_⟩
  · have := run_loadCells_list (P := P) w ⟨b, o, none⟩ new (fun j v hj => by
      have hj' : j < es.length * sz := by rw [← hl]; exact (List.getElem?_eq_some_iff.1 hj).1
      rw [Addr.add_none, ← hget j hj', hj])
    rwa [hl] at this
  · intro i r j x hi hj
    obtain ⟨v, h1, h2⟩ := hc i r j x hi hj
    have hil : i < es.length := (List.getElem?_eq_some_iff.1 hi).1
    have hjl : j < sz := by rw [← hsz r (List.mem_of_getElem? hi)]; exact (List.getElem?_eq_some_iff.1 hj).1
    refine ⟨v, ?_, h2⟩
    rw [hget _ (mul_row hil hjl), ← Nat.add_assoc]; exact h1
  · intro v hv
    obtain ⟨k, hk'⟩ := List.getElem?_of_mem hv
    have hkl : k < es.length * sz := by rw [← hl]; exact (List.getElem?_eq_some_iff.1 hk').1
    obtain ⟨v', x, h1, h2⟩ := hk k hkl
    rw [hget k hkl, h1] at hk'
    cases hk'; exact h2.one

/-- What is appended: its cells. -/
theorem run_firstCells {v : Value} {d : D} {sz : Nat} {xs : List (List E)} (h : RelD w G v d) (ho : ownD d = false) (hs : slOf d = some xs) (hr : ∀ r ∈ xs, r.length = sz) :
    (Builtin.lenOf v).run P w = .ok xs.length w ∧ ∃ new : List Value, (Builtin.firstCells sz xs.length v).run P w = .ok new.toArray w ∧ new.length = xs.length * sz ∧ Holds w G.S new sz xs ∧ ∀ v ∈ new, v.oneCell' = true := by
  rcases slOf_rows h ho hs with ⟨rfl, rfl⟩ | ⟨b, o, cap, sz', rfl, k1, k2, k3, k4⟩
  · exact ⟨rfl, [], rfl, by simp, fun i r j x hi => by simp at hi, fun v hv => by simp at hv⟩
  · refine ⟨rfl, ?_⟩
    have hc : ∀ i r j x, xs[i]? = some r → r[j]? = some x → ∃ v, w.cell? ⟨b, o + i * sz + j, none⟩ = some v ∧ RelE w G.S v x := by
      intro i r j x hi hj
      have e : sz' = sz := (k3 r (List.mem_of_getElem? hi)).symm.trans (hr r (List.mem_of_getElem? hi))
      subst e
      obtain ⟨_, v, h1, h2⟩ := k4 i r hi j x hj
      exact ⟨v, h1, h2⟩
    exact load_rows hr hc

theorem strE_len (b : ByteArray) : (strE b).length = b.size := by
  simp [strE, ByteArray.toList_eq]
theorem strE_rows (b : ByteArray) : ∀ r ∈ strE b, r.length = 1 := by
  intro r hr; simp only [strE, List.mem_map] at hr; obtain ⟨x, _, rfl⟩ := hr; rfl
theorem strE_holds (b : ByteArray) : Holds w G.S (b.data.toList.map fun x => .int .u8 x.toNat) 1 (strE b) := by
  intro i r j x hi hj
  simp only [strE, List.getElem?_map, ByteArray.toList_eq] at hi
  cases hb : b.data.toList[i]? with
  | none => rw [hb] at hi; simp at hi
  | some c =>
    rw [hb] at hi; simp at hi; subst hi
    match j with
    | 0 => simp [byteE] at hj; subst hj; exact ⟨.int .u8 c.toNat, by simp [hb], .int _ _⟩
    | j + 1 => simp [byteE] at hj
theorem run_firstCells_str (b : ByteArray) : (Builtin.lenOf (.string b)).run P w = .ok (strE b).length w ∧
    ∃ new : List Value, (Builtin.firstCells 1 (strE b).length (.string b)).run P w = .ok new.toArray w ∧ new.length = (strE b).length * 1 ∧ Holds w G.S new 1 (strE b) ∧ ∀ v ∈ new, v.oneCell' = true := by
  refine ⟨by simp [Builtin.lenOf, strE_len], b.data.toList.map fun x => .int .u8 x.toNat, ?_, by simp [strE_len], strE_holds b, fun v hv => ?_⟩
  · have e : b.extract 0 (strE b).length = b := by rw [strE_len]; simp
    simp only [Builtin.firstCells, e]
    simp only [Sem.run_pure]
    congr 1
    apply Array.ext'; simp
  · simp at hv; obtain ⟨x, _, rfl⟩ := hv; rfl

theorem holds_append {S : Nat → Nat → Prop} {a b : List Value} {sz : Nat} {es xs : List (List E)} (h1 : Holds w S a sz es) (hl : a.length = es.length * sz) (h2 : Holds w S b sz xs) (he : ∀ r ∈ es, r.length = sz) :
    Holds w S (a ++ b) sz (es ++ xs) := by
  intro i r j x hi hj
  by_cases hlt : i < es.length
  · rw [List.getElem?_append_left hlt] at hi
    obtain ⟨v, q1, q2⟩ := h1 i r j x hi hj
    have hjl : j < sz := by rw [← he r (List.mem_of_getElem? hi)]; exact (List.getElem?_eq_some_iff.1 hj).1
    exact ⟨v, by rw [List.getElem?_append_left (by rw [hl]; exact mul_row hlt hjl)]; exact q1, q2⟩
  · rw [List.getElem?_append_right (by omega)] at hi
    obtain ⟨v, q1, q2⟩ := h2 (i - es.length) r j x hi hj
    refine ⟨v, ?_, q2⟩
    have e : i * sz = es.length * sz + (i - es.length) * sz := by rw [← Nat.add_mul]; congr 1; omega
    rw [List.getElem?_append_right (by omega), ← q1]; congr 1; omega
theorem holds_more {S : Nat → Nat → Prop} {a b : List Value} {sz : Nat} {es : List (List E)} (h1 : Holds w S a sz es) : Holds w S (a ++ b) sz es := by
  intro i r j x hi hj
  obtain ⟨v, q1, q2⟩ := h1 i r j x hi hj
  exact ⟨v, by rw [List.getElem?_append_left (List.getElem?_eq_some_iff.1 q1).1]; exact q1, q2⟩

/-- A pending slice of one's own, said to have no more known of it. -/
theorem RelSt.loose {v : Value} {ex fu : Bool} {sz sz' : Nat} {es : List (List E)} (h : RelSt w G tm df (v :: pv) (.osl ex fu sz' es :: pd) s) (h0 : 0 < sz) (hs : sz' = sz ∨ (fu = true ∧ es = [])) :
    RelSt w G tm df (v :: pv) (.osl (ex || es.isEmpty) false sz es :: pd) s ∧ ∀ b, cntS w G tm (v :: pv) (.osl (ex || es.isEmpty) false sz es :: pd) s b ≤ cntS w G tm (v :: pv) (.osl ex fu sz' es :: pd) s b := by
  obtain ⟨kr, kl⟩ := h.P.head
  rw [Zd8 rfl, Zet rfl] at kl
  have key : RelD w G v (.osl (ex || es.isEmpty) false sz es) ∧ Leaf0 w G.S v (.osl (ex || es.isEmpty) false sz es) ∧ ∀ b, tok b v (.osl (ex || es.isEmpty) false sz es) ≤ tok b v (.osl ex fu sz' es) := by
    cases kr with
    | oslN _ _ _ => exact ⟨.oslN _ _ _, trivial, fun b => Nat.le_refl _⟩
    | osl b o n cap _ _ _ _ hn hc hfu h0' hsz hrow =>
      by_cases he : es = []
      · subst he
        simp at hn; subst hn
        refine ⟨.osl _ _ _ _ _ _ _ _ rfl hc (fun hx => by simp at hx) (.inl h0) (by simp) (fun _ => by simp), ?_, fun b' => ?_⟩
        · intro hcnd
          simp at hcnd
          obtain ⟨k0, arr, elem, fz, k1, k2, k3, k4, k5⟩ := kl (.inr hcnd)
          rcases hs with rfl | ⟨hf, _⟩
          · exact ⟨k0, arr, elem, fz, k1, k2, k3, k4, fun _ => ⟨fun j hj => k4 j (by simpa using hj), fun i r j x hi => by simp at hi⟩⟩
          · have := hfu hf; omega
        · unfold tok; simp
      · have e1 : es.isEmpty = false := by simpa using he
        have e2 : sz' = sz := by
          rcases hs with h | ⟨_, h⟩
          · exact h
          · exact absurd h he
        subst e2
        simp only [e1, Bool.or_false]
        exact ⟨.osl _ _ _ _ _ _ _ _ hn hc (fun hx => by simp at hx) h0' hsz hrow, kl, fun b' => Nat.le_refl _⟩
  obtain ⟨q1, q2, q3⟩ := key
  have q4 : ∀ b, tokT b v (.osl (ex || es.isEmpty) false sz es) ≤ tokT b v (.osl ex fu sz' es) := fun b => by rw [Zct rfl, Zct rfl]; exact q3 b
  refine ⟨{ L := h.L, P := h.P.tail.cons q1 (by rw [Zd8 rfl, Zet rfl]; exact q2), len := h.len, nd := h.nd, obS := h.obS, H := h.H, S := h.S, dfr := h.dfr, one := ?_, noob := ?_ }, ?_⟩
  · intro b; have := h.one b; have := q4 b; simp only [sumZ] at *; omega
  · intro b hb; have := h.noob b hb; have := q4 b; simp only [sumZ] at *; omega
  · intro b; have := q4 b; simp only [cntS, sumZ] at *; omega

/-- What a slice of one's own holds. -/
theorem own_cells {a : Addr} {ex fu : Bool} {n cap sz : Nat} {es : List (List E)} (kr : RelD w G (.slice (some a) n cap) (.osl ex fu sz es)) (kl : LeafT w G.S (.slice (some a) n cap) (.osl ex fu sz es)) :
    ∃ b o, a = ⟨b, o, none⟩ ∧ n = es.length ∧ n ≤ cap ∧ (fu = true → cap = n) ∧ (∀ r ∈ es, r.length = sz) ∧ ∀ i r j x, es[i]? = some r → r[j]? = some x → ∃ v, w.cell? ⟨b, o + i * sz + j, none⟩ = some v ∧ RelE w G.S v x := by
  rw [Zd8 rfl, Zet rfl] at kl
  cases kr with
  | osl b o n cap _ _ _ _ hn hc hfu h0 hsz hrow =>
    refine ⟨b, o, rfl, hn, hc, hfu, hsz, fun i r j x hi hj => ?_⟩
    cases ex with
    | false => obtain ⟨_, v, h1, h2⟩ := hrow rfl i r hi j x hj; exact ⟨v, h1, h2⟩
    | true =>
      obtain ⟨k0, arr, elem, fz, k1, k2, k3, k4, k5⟩ := kl (.inl ⟨rfl, fun e => by subst e; simp at hi⟩)
      obtain ⟨v, q1, q2⟩ := (k5 rfl).2 i r j x hi hj
      exact ⟨v, by simp only [World.cell?, k1]; simpa using q1, q2⟩

theorem growBy_le (m : Nat) : ∀ (k c : Nat), c ≤ 2 * m + 1024 → c < 2 * m + 1024 → Builtin.growBy m k c ≤ 2 * m + 1024
  | 0, c, h, _ => by simpa [Builtin.growBy] using h
  | k + 1, c, h, h' => by
    rw [Builtin.growBy]
    split
    · exact h
    · rename_i hlt
      by_cases h2 : c + (c + 768) / 4 < 2 * m + 1024
      · exact growBy_le m k _ (by omega) h2
      · exfalso; omega
theorem nextcap_le {need cap : Nat} (h : cap < need) : Builtin.nextslicecap need cap ≤ 2 * need + 1024 := by
  unfold Builtin.nextslicecap
  split
  · omega
  · split
    · omega
    · exact growBy_le need 4 cap (by omega) (by omega)

theorem zeroCells_one {zero : Array Value} {n : Nat} : (Builtin.zeroCells zero n).size = n * zero.size := by simp [Builtin.zeroCells]

theorem ofV_cells {v : Value} {z : D} (h : ofV v = some z) : v.cells.size = (cellsOf z).length := by
  rcases ofV_rel (w := default) (G := ⟨[], fun _ _ => False⟩) h with ⟨a, q, c⟩ | ⟨rfl, rfl⟩
  · exact (cells_one a c).1
  · rfl

set_option maxHeartbeats 2000000 in
/-- What append comes to, once its operands are known. -/
theorem run_append {v : Value} {ex fu : Bool} {sz sz' by_ : Nat} {es xs : List (List E)} (h : RelSt w G tm df (v :: pv) (.osl ex fu sz' es :: pd) s) {ats : Array TypeId} {t tx e : TypeId} {ty : TypeId} {xv : Value} {z : D}
    (ha : ats[0]? = some t) (hb : ats[1]? = some tx) (hu : P.underlying t = some (.slice e)) (hux : P.underlying tx = some .string ∨ ∃ e', P.underlying tx = some (.slice e'))
    (hsz : szOf P e = some sz) (hby : bytesOf' P e = some by_) (hz : Zgs P e = some z) (hzl : (cellsOf z).length = sz) (h0 : 0 < sz) (hb1 : by_ ≤ 16384)
    (hlen : es.length + xs.length ≤ 1073741824) (hs : sz' = sz ∨ (fu = true ∧ es = [])) (hxr : ∀ r ∈ xs, r.length = sz)
    (hx : ∀ w', w' = w ∨ w' = w.drew → (Builtin.lenOf xv).run P w' = .ok xs.length w' ∧ ∃ new : List Value, (Builtin.firstCells sz xs.length xv).run P w' = .ok new.toArray w' ∧ new.length = xs.length * sz ∧ Holds w' G.S new sz xs ∧ ∀ v ∈ new, v.oneCell' = true) :
    ∃ w' G' v', (Builtin.append_ ats ty #[v, xv]).run P w = .ok v' w' ∧ RelSt w' G' tm df (v' :: pv) (.osl (ex || es.isEmpty) false sz (es ++ xs) :: pd) s ∧
      Ext w G (cntS w G tm (v :: pv) (.osl ex fu sz' es :: pd) s) w' G' (cntS w' G' tm (v' :: pv) (.osl (ex || es.isEmpty) false sz (es ++ xs) :: pd) s) := by
  obtain ⟨hx1, new, hx2, hx3, hx4, hx5⟩ := hx w (.inl rfl)
  obtain ⟨hd1, newd, hd2, hd3, hd4, hd5⟩ := hx w.drew (.inr rfl)
  obtain ⟨inf, hi1, hi2⟩ := run_bytesOf hby w
  obtain ⟨zv, hz1, hz2⟩ := Zit hz w.drew
  have hzs : zv.cells.size = sz := (ofV_cells hz2).trans hzl
  obtain ⟨kr, kl⟩ := h.P.head
  -- the first operand
  have hv : ∃ a cap, v = .slice a es.length cap ∧ es.length ≤ cap ∧ (fu = true → cap = es.length) ∧
      (a = none → es = [] ∧ cap = 0) ∧ ∀ a', a = some a' → ∃ b o, a' = ⟨b, o, none⟩ ∧ (∀ r ∈ es, r.length = sz') ∧ ∀ i r j x, es[i]? = some r → r[j]? = some x → ∃ v, w.cell? ⟨b, o + i * sz' + j, none⟩ = some v ∧ RelE w G.S v x := by
    cases kr with
    | oslN _ _ _ => exact ⟨none, 0, rfl, Nat.le_refl _, (fun _ => rfl), (fun _ => ⟨rfl, rfl⟩), (fun a' he => by cases he)⟩
    | osl b o n cap _ _ _ _ hn hc hfu h0' hsz0 hrow =>
      obtain ⟨b1, o1, e1, e2, e3, e4, e5, e6⟩ := own_cells (.osl b o n cap sz' es ex fu hn hc hfu h0' hsz0 hrow) kl
      cases e1
      subst e2
      exact ⟨some ⟨b, o, none⟩, cap, rfl, hc, hfu, (fun he => by cases he), (fun a' he => by cases he; exact ⟨b, o, rfl, e5, e6⟩)⟩
  obtain ⟨a, cap, rfl, hc, hfu, hnone, hsome⟩ := hv
  by_cases hfit : es.length + xs.length ≤ cap
  · -- in place
    by_cases hm : xs = []
    · subst hm
      obtain ⟨q1, q2⟩ := h.loose h0 hs
      have hrun : (Builtin.append_ ats ty #[.slice a es.length cap, xv]).run P w = .ok (.slice a es.length cap) w := by
        have hn0 : new = [] := by simpa using hx3
        subst hn0
        simp only [List.length_nil, Nat.add_zero] at hfit hx1 hx2
        unfold Builtin.append_
        rcases hux with hux | ⟨e', hux⟩ <;> (cases a <;> simp [ha, hb, run_underlying hu, run_underlying hux, Zgv hsz, hx1, hx2, hc, storeCells])
      exact ⟨w, G, _, hrun, by simpa using q1, (Ext.refl w G _).weaken (fun _ => Nat.le_refl _) (fun b _ => by simpa using q2 b)⟩
    · have hml : 0 < xs.length := List.length_pos_iff.2 hm
      cases a with
      | none => obtain ⟨_, e2⟩ := hnone rfl; omega
      | some a' =>
        obtain ⟨b, o, rfl, hsz0, hcells⟩ := hsome a' rfl
        have e2 : sz' = sz := by
          rcases hs with h' | ⟨h', h''⟩
          · exact h'
          · have := hfu h'; omega
        subst e2
        obtain ⟨g1, g2, G', g3, g4⟩ := h.growIn (xs := xs) (new := new) h0 rfl (by omega) hfit hx3 hx4 hxr hx5
        refine ⟨_, G', _, ?_, g3, g4⟩
        have hst := run_storeCells_cells (P := P) b (o + es.length * sz') new 0 w (fun j hj => by simpa using g1 j hj) (fun j hj => by simpa using g2 j hj) hx5
        simp only [Nat.add_zero] at hst
        unfold Builtin.append_
        rcases hux with hux | ⟨e', hux⟩ <;> simp [ha, hb, run_underlying hu, run_underlying hux, Zgv hsz, hx1, hx2, hfit, Addr.add_none, hst]
  · -- a new array
    have hcap : cap < es.length + xs.length := by omega
    have hnx := nextcap_le hcap
    have hbig : ¬ (Builtin.nextslicecap (es.length + xs.length) cap * inf.bytes > 2 ^ 48) := by
      have : Builtin.nextslicecap (es.length + xs.length) cap * inf.bytes ≤ (2 * (es.length + xs.length) + 1024) * 16384 := Nat.mul_le_mul hnx (by omega)
      have : (2 * (es.length + xs.length) + 1024) * 16384 ≤ (2 * 1073741824 + 1024) * 16384 := Nat.mul_le_mul_right _ (by omega)
      omega
    obtain ⟨newCap, hnc⟩ : ∃ c, c = (Question.appendCap (es.length + xs.length) cap e).cut (w.tape w.drawn (.appendCap (es.length + xs.length) cap e)) := ⟨_, rfl⟩
    have hncle : es.length + xs.length ≤ newCap := by rw [hnc]; simp only [Question.cut]; omega
    obtain ⟨d1, d2⟩ := h.drew
    -- what was there
    have hold : ∃ old : List Value, (Builtin.firstCells sz es.length (.slice a es.length cap)).run P w.drew = .ok old.toArray w.drew ∧ old.length = es.length * sz ∧ Holds w.drew G.S old sz es := by
      cases a with
      | none =>
        obtain ⟨rfl, _⟩ := hnone rfl
        exact ⟨[], rfl, by simp, fun i r j x hi => by simp at hi⟩
      | some a' =>
        obtain ⟨b, o, rfl, hsz0, hcells⟩ := hsome a' rfl
        by_cases he : es = []
        · subst he
          obtain ⟨old, k1, k2, k3, _⟩ := load_rows (P := P) (w := w.drew) (G := G) (b := b) (o := o) (sz := sz) (es := []) (by simp) (fun i r j x hi => by simp at hi)
          exact ⟨old, k1, k2, k3⟩
        · have e2 : sz' = sz := by
            rcases hs with h' | ⟨_, h''⟩
            · exact h'
            · exact absurd h'' he
          subst e2
          obtain ⟨old, k1, k2, k3, _⟩ := load_rows (P := P) (w := w.drew) (G := G) (b := b) (o := o) hsz0 (fun i r j x hi hj => by
            obtain ⟨v, q1, q2⟩ := hcells i r j x hi hj
            exact ⟨v, q1, q2.mono (fun _ _ h => h) (fun _ _ _ => rfl)⟩)
          exact ⟨old, k1, k2, k3⟩
    obtain ⟨old, ho1, ho2, ho3⟩ := hold
    have hrows : ∀ r ∈ es, r.length = sz := by
      intro r hr
      have hne : es ≠ [] := fun e => by subst e; simp at hr
      have e2 : sz' = sz := by
        rcases hs with h' | ⟨_, h''⟩
        · exact h'
        · exact absurd h'' hne
      subst e2
      cases a with
      | none => exact absurd (hnone rfl).1 hne
      | some a' => obtain ⟨b, o, _, hsz0, _⟩ := hsome a' rfl; exact hsz0 r hr
    let arr : Array Value := old.toArray ++ newd.toArray ++ Builtin.zeroCells zv.cells (newCap - (es.length + xs.length))
    have harr : arr.size = newCap * sz := by
      have : newCap * sz = (es.length + xs.length) * sz + (newCap - (es.length + xs.length)) * sz := by rw [← Nat.add_mul]; congr 1; omega
      simp [arr, ho2, hd3, zeroCells_one, hzs, this, Nat.add_mul]; omega
    have hblk : (w.drew.alloc (.cells arr e)).heap[w.drew.heap.size]? = some (.cells arr e (0, 0)) := by rw [Zgr, if_pos rfl]
    obtain ⟨f1, f2⟩ := d1.drop.fresh (w' := w.drew.alloc (.cells arr e)) (arr := arr) (elem := e) (fz := (0, 0)) (n := es.length + xs.length) (cap := newCap) (sz := sz) (es := es ++ xs) (fu := false)
      (by simp) (fun b hb => Zez _ _ hb) hblk (fun j hj => by simp only [World.frozen?, hblk]; simp) (by simp) hncle (fun hx => by simp at hx) h0
      (fun r hr => (List.mem_append.1 hr).elim (hrows r) (hxr r)) (by omega)
      (by simp only [arr, Array.toList_append]; exact holds_more (holds_append ho3 ho2 hd4 hrows)) ⟨rfl, rfl⟩
    have hrun : (Builtin.append_ ats ty #[.slice a es.length cap, xv]).run P w = .ok (.slice (some ⟨w.drew.heap.size, 0, none⟩) (es.length + xs.length) newCap) (w.drew.alloc (.cells arr e)) := by
      have hq : (choose (Question.appendCap (es.length + xs.length) cap e)).run P w = .ok newCap w.drew := by
        rw [run_choose, hnc]; rfl
      have hi1' : (typeInfo e).run P w.drew = .ok inf w.drew := by
        have := run_bytesOf hby w.drew
        obtain ⟨inf2, a1, a2⟩ := this
        unfold typeInfo at hi1 a1 ⊢
        cases hinfo : P.info? e with
        | none => simp [hinfo] at hi1
        | some ii => simp [hinfo] at hi1 ⊢; exact hi1
      have hint : ¬ (((es.length + xs.length : Nat) : Int) > IntKind.i64.max ∧ inf.bytes = 0) := by
        have : IntKind.i64.max = 9223372036854775807 := by decide
        rw [this]; omega
      have hint' : ¬ (((es.length : Int) + (xs.length : Int)) > IntKind.i64.max ∧ inf.bytes = 0) := by
        have : IntKind.i64.max = 9223372036854775807 := by decide
        rw [this]; omega
      unfold Builtin.append_
      rcases hux with hux | ⟨e', hux⟩
      · simp [ha, hb, run_underlying hu, run_underlying hux, Zgv hsz, hx1, hfit, hi1, hbig, -run_choose, hq, hi1', ho1, hd2, hz1, newRow, arr]
        try exact fun hh1 hh2 => absurd ⟨hh1, hh2⟩ hint'
      · simp [ha, hb, run_underlying hu, run_underlying hux, Zgv hsz, hx1, hfit, hi1, hbig, -run_choose, hq, hi1', ho1, hd2, hz1, newRow, arr]
        try exact fun hh1 hh2 => absurd ⟨hh1, hh2⟩ hint'
    have hext : Ext w G (cntS w G tm (.slice a es.length cap :: pv) (.osl ex fu sz' es :: pd) s) (w.drew.alloc (.cells arr e)) G (cntS (w.drew.alloc (.cells arr e)) G tm (.slice (some ⟨w.drew.heap.size, 0, none⟩) (es.length + xs.length) newCap :: pv) (.osl true false sz (es ++ xs) :: pd) s) :=
      (d2.weaken (fun _ => Nat.le_refl _) (fun b hb => Nat.le_trans (Zgm b) (d2.cnt b hb))).trans f2
    cases hex : (ex || es.isEmpty) with
    | true => exact ⟨_, G, _, hrun, f1, hext⟩
    | false =>
      obtain ⟨s1, s2, _, _⟩ := f1.toSeal rfl
      exact ⟨_, _, _, hrun, s1, hext.trans s2⟩

theorem appendD_some {t : TypeId} {d x : D} {str : Bool} {r : D} (h : Zfi P t d x str = some r) :
    ∃ e sz by_ z ex fu sz' es xs, P.underlying t = some (.slice e) ∧ szOf P e = some sz ∧ bytesOf' P e = some by_ ∧ Zgs P e = some z ∧ (cellsOf z).length = sz ∧ 0 < sz ∧ by_ ≤ 16384 ∧ (∀ r ∈ xs, r.length = sz) ∧
      d = .osl ex fu sz' es ∧ es.length + xs.length ≤ 1073741824 ∧ (sz' = sz ∨ (fu = true ∧ es = [])) ∧ r = .osl (ex || es.isEmpty) false sz (es ++ xs) ∧
      ((str = true ∧ ∃ b, x = .e (.str b) ∧ xs = strE b) ∨ (str = false ∧ slOf x = some xs)) := by
  unfold Zfi at h
  split at h
  · rename_i e he
    split at h
    · rename_i sz by_ z xs h1 h2 h3 h4
      split at h
      · rename_i hc
        obtain ⟨c1, c2, c3, c4⟩ := hc
        split at h
        · rename_i ex fu sz' es
          split at h
          · rename_i hc2
            simp at h
            have hu : P.underlying t = some (.slice e) := by
              unfold elemT at he; split at he
              · simp at he; subst he; assumption
              · simp at he
            have hz : ∃ z0, Zgs P e = some z0 ∧ cellsOf z0 = z := by
              unfold Zed at h3
              obtain ⟨d, a1, a2⟩ := Option.bind_eq_some_iff.1 h3
              split at a2
              · simp at a2; exact ⟨d, a1, a2⟩
              · simp at a2
            obtain ⟨z0, hz0, rfl⟩ := hz
            refine ⟨e, sz, by_, z0, ex, fu, sz', es, xs, hu, h1, h2, hz0, c1, c2, c3, by simpa [okRows] using c4, rfl, hc2.1, ?_, h.symm, ?_⟩
            · rcases hc2.2 with q | ⟨q1, q2⟩
              · exact .inl q
              · exact .inr ⟨q1, by simpa using q2⟩
            · split at h4
              · rename_i b
                cases str <;> simp at h4
                exact .inl ⟨rfl, b, rfl, h4.symm⟩
              · cases str <;> simp at h4
                exact .inr ⟨rfl, h4⟩
          · simp at h
        · simp at h
      · simp at h
    · simp at h
  · simp at h

def constsOf (c : Call) : Array Bool := c.args.map fun | .const _ => true | _ => false

theorem run_builtin {o : Oper} {c : Call} {b : Builtin} (ho : o.op = .call c) (hc : c.callee = .builtin b) (ρ : Operand → Value) :
    (execOp ρ o).run P w = (builtin b c.argTypes o.type (constsOf c) (c.args.map ρ)).run P w := by
  simp only [execOp, ho, resolve, hc, Sem.run_bind, Sem.run_pure, Result.andThen_ok, invoke]
  rfl

theorem sh_slOf {v : Value} {d : D} {sz : Nat} {xs : List (List E)} {w' : World} (hw : w' = w ∨ w' = w.drew) (h : RelD w G v d) (ho : ownD d = false) (hs : slOf d = some xs) (hr : ∀ r ∈ xs, r.length = sz) :
    (Builtin.lenOf v).run P w' = .ok xs.length w' ∧ ∃ new : List Value, (Builtin.firstCells sz xs.length v).run P w' = .ok new.toArray w' ∧ new.length = xs.length * sz ∧ Holds w' G.S new sz xs ∧ ∀ v ∈ new, v.oneCell' = true := by
  refine run_firstCells (G := G) ?_ ho hs hr
  rcases hw with rfl | rfl
  · exact h
  · exact h.mono ⟨fun _ _ h => h, fun _ _ h => h, fun _ _ _ => rfl⟩

theorem op_append (h : RelSt w G tm df pv pd s) {rest : List Oper} {o : Oper} {c : Call} (ho : o.op = .call c) (hc : c.callee = .builtin .append) {d : D} {s1 : St} (hx : exOp P rest o s = some (.val d, s1)) : Zi6 P w G tm df pv pd s o d s1 := by
  simp only [exOp, ho, hc] at hx
  unfold Zfs at hx
  split at hx
  all_goals first | (simp at hx; done) | skip
  all_goals rename_i heq1 heq2
  all_goals try (cases heq1; done)
  · rename_i x y
    have hargs : c.args = #[x, y] := by
      apply Array.ext'; simpa using heq2
    split at hx
    · rename_i d1 s2 t ty h1 h2 h3
      split at hx
      · rename_i str hstr
        split at hx
        · rename_i v s3 h4
          simp at hx
          obtain ⟨r, h5, rfl, rfl⟩ := hx
          obtain ⟨k1, k2, k3, k4, k5⟩ := tk_rel h h1
          obtain ⟨G1, m1, m2, m3, m4, m5, m6⟩ := sh_rel k1 h4
          obtain ⟨e, sz, by_, z, ex, fu, sz', es, xs, a1, a2, a3, a4, a5, a6, a7, a8, rfl, a10, a11, rfl, a13⟩ := appendD_some h5
          have hux : P.underlying ty = some .string ∨ ∃ e', P.underlying ty = some (.slice e') := by
            split at hstr
            · exact .inl (by assumption)
            · exact .inr ⟨_, by assumption⟩
            · simp at hstr
          have hxx : ∀ w', w' = w ∨ w' = w.drew → (Builtin.lenOf (ev tm y)).run P w' = .ok xs.length w' ∧ ∃ new : List Value, (Builtin.firstCells sz xs.length (ev tm y)).run P w' = .ok new.toArray w' ∧ new.length = xs.length * sz ∧ Holds w' G1.S new sz xs ∧ ∀ v ∈ new, v.oneCell' = true := by
            intro w' hw'
            rcases a13 with ⟨_, b, rfl, rfl⟩ | ⟨_, q⟩
            · have e1 := relD_str m1.P.head.1
              have e2 : sz = 1 ∨ strE b = [] := by
                cases hb : strE b with
                | nil => exact .inr rfl
                | cons r l =>
                  refine .inl ?_
                  have q1 := a8 r (by rw [hb]; simp)
                  have q2 := strE_rows b r (by rw [hb]; simp)
                  omega
              obtain ⟨q1, new, q2, q3, q4, q5⟩ := run_firstCells_str (P := P) (w := w') (G := G1) b
              rw [e1]
              refine ⟨q1, ?_⟩
              rcases e2 with rfl | e2
              · exact ⟨new, q2, q3, q4, q5⟩
              · refine ⟨[], ?_, by simp [e2], fun i r j x hi => by simp [e2] at hi, fun v hv => by simp at hv⟩
                rw [e2] at q2 q3 ⊢
                have : new = [] := by simpa using q3
                subst this; exact q2
            · exact sh_slOf hw' m1.P.head.1 (sh_own h4) q a8
          obtain ⟨w', G2, v', b1, b2, b3⟩ := run_append (P := P) (ats := c.argTypes) (ty := o.type) m1.drop (by simpa using h2) (by simpa using h3) a1 hux a2 a3 a4 a5 a6 a7 a10 a11 a8 hxx
          refine ⟨w', G2, _, v', ?_, .inl rfl, b2, ?_, m5.trans k4, m6.trans k5⟩
          · rw [run_builtin ho hc, hargs]
            simp [builtin, b1]
          · refine ((m3.weaken (fun b => Nat.le_of_eq (k2 b)) (fun b hb => Nat.le_trans (Zgm b) (Nat.le_trans (m3.cnt b hb) (Nat.le_of_eq (k2 b)))))).trans (b3.weaken (fun _ => Nat.le_refl _) (fun b hb => b3.cnt b hb))
        · simp at hx
      · simp at hx
    · simp at hx
end

end Go.Abs

namespace Go.Abs

section
variable {P : Program} {w : World} {G : Gh} {tm : List Value} {df : List Deferred} {pv : List Value} {pd : List D} {s : St}

theorem toBytes_len : ∀ (es : List (List E)) (bs : List UInt8), Zhp es = some bs → es.length = bs.length ∧ ∀ (i : Nat) (r : List E), es[i]? = some r → ∃ n : Int, r = [.int .u8 n] ∧ bs[i]? = some (UInt8.ofNat n.toNat)
  | [], bs, h => by simp [Zhp] at h; subst h; exact ⟨rfl, fun i r hi => by simp at hi⟩
  | x :: xs, bs, h => by
    simp only [Zhp] at h
    split at h
    · rename_i b bs' h1 h2
      simp at h; subst h
      obtain ⟨k1, k2⟩ := toBytes_len xs bs' h2
      refine ⟨by simp [k1], fun i r hi => ?_⟩
      cases i with
      | zero =>
        simp at hi; subst hi
        unfold toByte at h1
        split at h1
        · rename_i n; simp at h1; subst h1; exact ⟨n, rfl, by simp⟩
        · simp at h1
      | succ i => simpa using k2 i r (by simpa using hi)
    · simp at h

theorem run_toString {v : Value} {d : D} {es : List (List E)} {bs : List UInt8} (h : RelD w G v d) (ho : ownD d = false) (hs : slOf d = some es) (hb : Zhp es = some bs) :
    (Conv.bytesToString v).run P w = .ok (.string ⟨bs.toArray⟩) w := by
  obtain ⟨k1, k2⟩ := toBytes_len es bs hb
  have hlen : ∀ r ∈ es, r.length = 1 := by
    intro r hr
    obtain ⟨i, hi⟩ := List.getElem?_of_mem hr
    obtain ⟨n, rfl, _⟩ := k2 i r hi; rfl
  rcases slOf_rows h ho hs with ⟨rfl, rfl⟩ | ⟨b, o, cap, sz, rfl, q1, q2, q3, q4⟩
  · simp at k1
    have : bs = [] := by simpa using k1.symm
    subst this
    simp [Conv.bytesToString]; rfl
  · -- the numbers that the cells hold
    let ns : List Int := es.map fun r => match r with | [.int .u8 n] => n | _ => 0
    have hload : (loadCells ⟨b, o, none⟩ es.length).run P w = .ok (ns.map (Value.int .u8)).toArray w := by
      have := run_loadCells_list (P := P) w ⟨b, o, none⟩ (ns.map (Value.int .u8)) (fun j v hj => by
        simp only [ns, List.getElem?_map] at hj
        cases he : es[j]? with
        | none => rw [he] at hj; simp at hj
        | some r =>
          obtain ⟨n, rfl, _⟩ := k2 j r he
          rw [he] at hj; simp at hj; subst hj
          have hsz : sz = 1 := (q3 _ (List.mem_of_getElem? he)).symm
          subst hsz
          obtain ⟨_, u, r1, r2⟩ := q4 j _ he 0 _ rfl
          rw [Addr.add_none]
          rw [relE_int r2] at r1
          simpa using r1)
      simpa [ns] using this
    rw [run_bytesToString w _ _ _ ns hload]
    congr 2
    have aux : ∀ (es : List (List E)) (bs : List UInt8) (acc : ByteArray), Zhp es = some bs →
        (es.map fun r => match r with | [.int .u8 n] => n | _ => 0).foldl (fun r (n : Int) => r.push (UInt8.ofNat n.toNat)) acc = ⟨acc.data ++ bs.toArray⟩ := by
      intro es
      induction es with
      | nil => intro bs acc h; simp [Zhp] at h; subst h; simp
      | cons x xs ih =>
        intro bs acc h
        simp only [Zhp] at h
        split at h
        · rename_i b bs' h1 h2
          simp at h; subst h
          unfold toByte at h1
          split at h1
          · rename_i n
            simp at h1; subst h1
            simp only [List.map_cons, List.foldl_cons]
            rw [ih bs' _ h2]
            show (⟨_⟩ : ByteArray) = _
            congr 1
            apply Array.ext'
            simp [ByteArray.push]
          · simp at h1
        · simp at h
    have := aux es bs ByteArray.empty hb
    rw [this]
    show (⟨_⟩ : ByteArray) = _
    simp [ByteArray.empty, ByteArray.emptyWithCapacity]
    rfl

theorem op_convert (h : RelSt w G tm df pv pd s) {rest : List Oper} {o : Oper} {src dst : TypeId} {x : Operand} (ho : o.op = .convert src dst x) {d : D} {s1 : St} (hx : exOp P rest o s = some (.val d, s1)) : Zi6 P w G tm df pv pd s o d s1 := by
  simp only [exOp, ho] at hx
  split at hx
  · rename_i a s2 h1
    simp at hx
    obtain ⟨d', h2, rfl, rfl⟩ := hx
    have hown := sh_own h1
    unfold convD at h2
    split at h2
    · rename_i ks kd kx n hs hd
      simp at h2; subst h2
      refine opVal_sh h h1 (fun G' _ hr => ?_)
      have e := Zfo hr
      exact ⟨_, by simp [execOp, ho, e, convert, run_underlying hs, run_underlying hd, Conv.intToInt], .e _ _ (.int _ _), fun b => by rw [Zct rfl, tok_e]⟩
    · rename_i b hs hd
      simp at h2; subst h2
      refine opVal_sh h h1 (fun G' _ hr => ?_)
      have e := relD_str hr
      exact ⟨_, by simp [execOp, ho, e, convert, run_underlying hs, run_underlying hd], .e _ _ (.str _), fun b => by rw [Zct rfl, tok_e]⟩
    · rename_i el b hs hd
      split at h2
      · rename_i he
        split at h2
        · rename_i hb
          simp at h2; subst h2
          obtain ⟨G1, m1, m2, m3, m4, m5, m6⟩ := sh_rel h h1
          have e := relD_str m1.P.head.1
          -- the new array
          obtain ⟨d1, d2⟩ := m1.drop.drew
          obtain ⟨cap, hcap⟩ : ∃ c, c = (Question.appendCap b.size 0 el).cut (w.tape w.drawn (.appendCap b.size 0 el)) := ⟨_, rfl⟩
          have hle : b.size ≤ cap := by rw [hcap]; simp only [Question.cut]; omega
          let arr : Array Value := b.data.map (fun x => Value.int .u8 x.toNat) ++ Array.replicate (cap - b.size) (.int .u8 0)
          have harr : arr.size = cap := by
            have : b.data.size = b.size := rfl
            simp [arr, this]; omega
          let W := (w.drew.alloc (.cells arr el)).freeze ⟨w.heap.size, cap, none⟩ 1
          have hW : ∀ k, W.heap[k]? = if k = w.heap.size then some (.cells arr el (cap, cap + 1)) else w.heap[k]? := by
            intro k
            have h0 : (w.drew.alloc (.cells arr el)).heap[k]? = if k = w.heap.size then some (.cells arr el) else w.heap[k]? := Zgr w.drew _ k
            simp only [W, World.freeze, Nat.one_ne_zero, if_false, Array.getElem?_modify, h0]
            by_cases hk : k = w.heap.size
            · subst hk; simp
            · rw [if_neg (fun e => hk e.symm), if_neg hk, if_neg hk]
          have hWs : W.heap.size = w.heap.size + 1 := by simp [W, World.freeze]
          have hblk : W.heap[w.drew.heap.size]? = some (.cells arr el (cap, cap + 1)) := by
            show W.heap[w.heap.size]? = _
            rw [hW, if_pos rfl]
          obtain ⟨f1, f2⟩ := d1.fresh (w' := W) (arr := arr) (elem := el) (fz := (cap, cap + 1)) (n := b.size) (cap := cap) (sz := 1) (es := strE b) (fu := false)
            hWs (fun k hk => by
              have hk' : k < w.heap.size := hk
              rw [hW, if_neg (by omega)]; rfl) hblk (fun j hj => by simp only [World.frozen?, hblk]; simp; omega) (strE_len b).symm hle (fun hx => by simp at hx) (by omega) (strE_rows b)
            (by simp [harr]) (by
              have := strE_holds (w := w.drew) (G := G1) b
              simp only [arr, Array.toList_append]
              refine holds_more ?_
              simpa using this) ⟨rfl, rfl⟩
          refine ⟨W, G1, _, _, ?_, .inl rfl, f1, ?_, m5, m6⟩
          · have hq : (choose (Question.appendCap b.size 0 el)).run P w = .ok cap w.drew := by rw [run_choose, hcap]; rfl
            have hsh : (w.drew.alloc (.cells arr el)).shape? w.heap.size = some (el, arr.size) := by
              have : (w.drew.alloc (.cells arr el)).heap[w.heap.size]? = some (.cells arr el) := by
                have := Zgr w.drew (.cells arr el) w.heap.size
                rw [this]; exact if_pos rfl
              simp only [World.shape?, this]
            simp only [execOp, ho, e, convert, Sem.run_bind, run_underlying hs, run_underlying hd, run_underlying he, Result.andThen_ok, Conv.stringToBytes, hq, newRow, run_newObj, Sem.run_pure, markStringish]
            have hsz : w.drew.heap.size = w.heap.size := rfl
            simp only [hsz, World.alloc_eq]
            simp only [run_shape]
            rw [show (b.data.map (fun x => Value.int .u8 x.toNat) ++ Array.replicate (cap - b.size) (.int .u8 0)) = arr from rfl]
            simp only [hsh, Result.andThen_ok, run_freeze, harr]
            rfl
          · exact ((m3.weaken (fun _ => Nat.le_refl _) (fun b hb => Nat.le_trans (Zgm b) (m3.cnt b hb))).trans d2).trans f2
        · simp at h2
      · simp at h2
    · rename_i el x' hs hd
      split at h2
      · rename_i es he hes
        simp at h2
        obtain ⟨bs, hb, rfl⟩ := h2
        refine opVal_sh h h1 (fun G' _ hr => ?_)
        have hrun := run_toString (P := P) hr hown hes hb
        refine ⟨_, ?_, .e _ _ (.str _), fun b => by rw [Zct rfl, tok_e]⟩
        obtain ⟨a0, n0, c0, e0⟩ := slOf_slice hr hes
        rw [e0] at hrun
        simp only [execOp, ho, e0, convert, Sem.run_bind, run_underlying hs, run_underlying hd, run_underlying he, Result.andThen_ok, hrun, Sem.run_pure]
      · simp at h2
    · simp at h2
  · simp at hx

theorem op_len (h : RelSt w G tm df pv pd s) {rest : List Oper} {o : Oper} {c : Call} (ho : o.op = .call c) (hc : c.callee = .builtin .len) {d : D} {s1 : St} (hx : exOp P rest o s = some (.val d, s1)) : Zi6 P w G tm df pv pd s o d s1 := by
  simp only [exOp, ho, hc] at hx
  unfold Zfs at hx
  split at hx
  all_goals first | (simp at hx; done) | skip
  all_goals rename_i heq1 heq2
  all_goals try (cases heq1; done)
  · rename_i x
    have hargs : c.args = #[x] := by apply Array.ext'; simpa using heq2
    split at hx
    · rename_i d0 t h1 h2
      obtain ⟨n, h3, h4⟩ := Option.map_eq_some_iff.1 hx
      simp only [Prod.mk.injEq, Out.val.injEq] at h4
      obtain ⟨rfl, rfl⟩ := h4
      have hr := Zgg h h1
      have key : (Builtin.len_ c.argTypes o.type #[ev tm x]).run P w = .ok (.int .i64 n) w := by
        have ha : c.argTypes[0]? = some t := by simpa using h2
        unfold len0 at h3
        split at h3
        · rename_i b hu
          simp at h3; subst h3
          simp [Builtin.len_, ha, run_underlying hu, relD_str hr, goInt]
        · rename_i n0 e0 hu
          simp at h3; subst h3
          simp [Builtin.len_, ha, run_underlying hu, goInt]
        · rename_i e0 es hu
          simp at h3; subst h3
          rcases (Zfk hr).rows with ⟨rfl, e1⟩ | ⟨b, o', cap, sz, e1, _⟩ <;> simp [Builtin.len_, ha, run_underlying hu, e1, goInt]
        · rename_i e0 ex fu sz es hu
          simp at h3; subst h3
          have : ∃ a c, ev tm x = .slice a es.length c := by
            generalize ev tm x = v at hr
            cases hr with
            | oslN _ _ _ => exact ⟨_, _, rfl⟩
            | osl b o n cap _ _ _ _ hn => subst hn; exact ⟨_, _, rfl⟩
          obtain ⟨a, c', e1⟩ := this
          simp [Builtin.len_, ha, run_underlying hu, e1, goInt]
        · rename_i e0 n0 hu
          simp at h3; subst h3
          have : ∃ a c, ev tm x = .slice a n0 c := by
            generalize ev tm x = v at hr
            cases hr; exact ⟨_, _, rfl⟩
          obtain ⟨a, c', e1⟩ := this
          simp [Builtin.len_, ha, run_underlying hu, e1, goInt]
        · rename_i e0 i0 o0 n0 hu
          simp at h3; subst h3
          have : ∃ a c, ev tm x = .slice a n0 c := by
            generalize ev tm x = v at hr
            cases hr; exact ⟨_, _, rfl⟩
          obtain ⟨a, c', e1⟩ := this
          simp [Builtin.len_, ha, run_underlying hu, e1, goInt]
        · rename_i k0 e0 hu
          simp at h3; subst h3
          have e1 : ev tm x = .map none := by
            have := Zfk hr
            generalize ev tm x = v at this
            cases this; rfl
          simp [Builtin.len_, ha, run_underlying hu, e1, goInt]
        · rename_i k0 e0 i hu
          split at h3
          · rename_i es hi
            simp at h3; subst h3
            have e1 : ∃ b, ev tm x = .map (some b) ∧ G.ob[i]? = some b := by
              generalize ev tm x = v at hr
              cases hr with | map i b h => exact ⟨b, rfl, h⟩
            obtain ⟨b, e1, hb⟩ := e1
            obtain ⟨ents, clock, q1, q2, q3⟩ := h.H i b _ hb hi
            simp [Builtin.len_, ha, run_underlying hu, e1, goInt, getObj, Sem.run, q1, q2]
          · simp at h3
        · simp at h3
      exact Zdw h (by rw [run_builtin ho hc, hargs]; simp [builtin, key]) (.e _ _ (.int _ _)) (fun b => by rw [Zct rfl, tok_e])
    · simp at hx
end

end Go.Abs
