/-
  THE OPERATIONS, ONE BY ONE: append, and conversions between texts and bytes. THE OPERATIONS, ONE BY ONE: conversions, length, least and greatest, panics. THE OPERATIONS, ONE BY ONE: maps. No condition.
-/
import Derived.Test.YtkimilghfbgjmaaQ06
import Derived.Laws.BytesString

open List renaming mem_of_getElem? → Yaa
open Nat renaming le_refl → Yab
namespace Go.Abs
section
variable {P : Program} {w : World} {G : Gh} {tm : List Value} {df : List Deferred} {pv : List Value} {pd : List D} {s : St}
theorem Zsq {b o sz : Nat} {es : List (List E)} (hsz : ∀ r ∈ es, r.length = sz)
    (hc : ∀ i r j x, es[i]? = some r → r[j]? = some x → ∃ v, w.cell? ⟨b, o + i * sz + j, none⟩ = some v ∧ RelE w G.S v x) :
    ∃ new : List Value, (loadCells ⟨b, o, none⟩ (es.length * sz)).run P w = .ok new.toArray w ∧ new.length = es.length * sz ∧ Znd w G.S new sz es ∧ ∀ v ∈ new, v.oneCell' = true := by
  have hk : ∀ k, k < es.length * sz → ∃ v x, w.cell? ⟨b, o + k, none⟩ = some v ∧ RelE w G.S v x := by
    intro k hk
    have hpos : 0 < sz := by
      rcases Nat.eq_zero_or_pos sz with h | h
      · subst h; simp at hk
      · exact h
    have hi : k / sz < es.length := by rw [Nat.div_lt_iff_lt_mul hpos]; exact hk
    have hr : es[k / sz]? = some es[k / sz] := List.getElem?_eq_getElem hi
    have hj : k % sz < (es[k / sz]).length := by rw [hsz _ (List.getElem_mem hi)]; exact Nat.mod_lt _ hpos
    obtain ⟨v, h1, h2⟩ := hc _ _ _ _ hr (List.getElem?_eq_getElem hj)
    refine ⟨v, _, ?_, h2⟩
    rw [← h1]
    have := Nat.div_add_mod k sz
    congr 2
    rw [Nat.mul_comm] at this; omega
  let new := (List.range (es.length * sz)).map fun k => (w.cell? ⟨b, o + k, none⟩).getD undef
  have hl : new.length = es.length * sz := by simp [new]
  have hget : ∀ k, k < es.length * sz → new[k]? = w.cell? ⟨b, o + k, none⟩ := by
    intro k hk'
    obtain ⟨v, x, h1, _⟩ := hk k hk'
    simp [new, hk', h1]
  refine ⟨new, ?_, hl, ?_, ?_⟩
  · have := run_loadCells_list (P := P) w ⟨b, o, none⟩ new (fun j v hj => by
      have hj' : j < es.length * sz := by rw [← hl]; exact (List.getElem?_eq_some_iff.1 hj).1
      rw [Addr.add_none, ← hget j hj', hj])
    rwa [hl] at this
  · intro i r j x hi hj
    obtain ⟨v, h1, h2⟩ := hc i r j x hi hj
    have hil : i < es.length := (List.getElem?_eq_some_iff.1 hi).1
    have hjl : j < sz := by rw [← hsz r (Yaa hi)]; exact (List.getElem?_eq_some_iff.1 hj).1
    refine ⟨v, ?_, h2⟩
    rw [hget _ (Zqr hil hjl), ← Nat.add_assoc]; exact h1
  · intro v hv
    obtain ⟨k, hk'⟩ := List.getElem?_of_mem hv
    have hkl : k < es.length * sz := by rw [← hl]; exact (List.getElem?_eq_some_iff.1 hk').1
    obtain ⟨v', x, h1, h2⟩ := hk k hkl
    rw [hget k hkl, h1] at hk'
    cases hk'; exact h2.one
theorem Ztb {v : Value} {d : D} {sz : Nat} {xs : List (List E)} (h : RelD w G v d) (ho : ownD d = false) (hs : slOf d = some xs) (hr : ∀ r ∈ xs, r.length = sz) :
    (Builtin.lenOf v).run P w = .ok xs.length w ∧ ∃ new : List Value, (Builtin.firstCells sz xs.length v).run P w = .ok new.toArray w ∧ new.length = xs.length * sz ∧ Znd w G.S new sz xs ∧ ∀ v ∈ new, v.oneCell' = true := by
  rcases Znl h ho hs with ⟨rfl, rfl⟩ | ⟨b, o, cap, sz', rfl, k1, k2, k3, k4⟩
  · exact ⟨rfl, [], rfl, by simp, fun i r j x hi => by simp at hi, fun v hv => by simp at hv⟩
  · refine ⟨rfl, ?_⟩
    have hc : ∀ i r j x, xs[i]? = some r → r[j]? = some x → ∃ v, w.cell? ⟨b, o + i * sz + j, none⟩ = some v ∧ RelE w G.S v x := by
      intro i r j x hi hj
      have e : sz' = sz := (k3 r (Yaa hi)).symm.trans (hr r (Yaa hi))
      subst e
      obtain ⟨_, v, h1, h2⟩ := k4 i r hi j x hj
      exact ⟨v, h1, h2⟩
    exact Zsq hr hc
theorem Zrj (b : ByteArray) : (strE b).length = b.size := by
  simp [strE, ByteArray.toList_eq]
theorem Zwi (b : ByteArray) : ∀ r ∈ strE b, r.length = 1 := by
  intro r hr; simp only [strE, List.mem_map] at hr; obtain ⟨x, _, rfl⟩ := hr; rfl
theorem Ztr (b : ByteArray) : Znd w G.S (b.data.toList.map fun x => .int .u8 x.toNat) 1 (strE b) := by
  intro i r j x hi hj
  simp only [strE, List.getElem?_map, ByteArray.toList_eq] at hi
  cases hb : b.data.toList[i]? with
  | none => rw [hb] at hi; simp at hi
  | some c =>
    rw [hb] at hi; simp at hi; subst hi
    match j with
    | 0 => simp [byteE] at hj; subst hj; exact ⟨.int .u8 c.toNat, by simp [hb], .int _ _⟩
    | j + 1 => simp [byteE] at hj
theorem Zpu (b : ByteArray) : (Builtin.lenOf (.string b)).run P w = .ok (strE b).length w ∧
    ∃ new : List Value, (Builtin.firstCells 1 (strE b).length (.string b)).run P w = .ok new.toArray w ∧ new.length = (strE b).length * 1 ∧ Znd w G.S new 1 (strE b) ∧ ∀ v ∈ new, v.oneCell' = true := by
  refine ⟨by simp [Builtin.lenOf, Zrj], b.data.toList.map fun x => .int .u8 x.toNat, ?_, by simp [Zrj], Ztr b, fun v hv => ?_⟩
  · have e : b.extract 0 (strE b).length = b := by rw [Zrj]; simp
    simp only [Builtin.firstCells, e]
    simp only [Sem.run_pure]
    congr 1
    apply Array.ext'; simp
  · simp at hv; obtain ⟨x, _, rfl⟩ := hv; rfl
theorem Zxd {S : Nat → Nat → Prop} {a b : List Value} {sz : Nat} {es xs : List (List E)} (h1 : Znd w S a sz es) (hl : a.length = es.length * sz) (h2 : Znd w S b sz xs) (he : ∀ r ∈ es, r.length = sz) :
    Znd w S (a ++ b) sz (es ++ xs) := by
  intro i r j x hi hj
  by_cases hlt : i < es.length
  · rw [List.getElem?_append_left hlt] at hi
    obtain ⟨v, q1, q2⟩ := h1 i r j x hi hj
    have hjl : j < sz := by rw [← he r (Yaa hi)]; exact (List.getElem?_eq_some_iff.1 hj).1
    exact ⟨v, by rw [List.getElem?_append_left (by rw [hl]; exact Zqr hlt hjl)]; exact q1, q2⟩
  · rw [List.getElem?_append_right (by omega)] at hi
    obtain ⟨v, q1, q2⟩ := h2 (i - es.length) r j x hi hj
    refine ⟨v, ?_, q2⟩
    have e : i * sz = es.length * sz + (i - es.length) * sz := by rw [← Nat.add_mul]; congr 1; omega
    rw [List.getElem?_append_right (by omega), ← q1]; congr 1; omega
theorem Zu7 {S : Nat → Nat → Prop} {a b : List Value} {sz : Nat} {es : List (List E)} (h1 : Znd w S a sz es) : Znd w S (a ++ b) sz es := by
  intro i r j x hi hj
  obtain ⟨v, q1, q2⟩ := h1 i r j x hi hj
  exact ⟨v, by rw [List.getElem?_append_left (List.getElem?_eq_some_iff.1 q1).1]; exact q1, q2⟩
theorem RelSt.loose {v : Value} {ex fu : Bool} {sz sz' : Nat} {es : List (List E)} (h : RelSt w G tm df (v :: pv) (.osl ex fu sz' es :: pd) s) (h0 : 0 < sz) (hs : sz' = sz ∨ (fu = true ∧ es = [])) :
    RelSt w G tm df (v :: pv) (.osl (ex || es.isEmpty) false sz es :: pd) s ∧ ∀ b, cntS w G tm (v :: pv) (.osl (ex || es.isEmpty) false sz es :: pd) s b ≤ cntS w G tm (v :: pv) (.osl ex fu sz' es :: pd) s b := by
  obtain ⟨kr, kl⟩ := h.P.head
  rw [Zdu rfl, Zfk rfl] at kl
  have key : RelD w G v (.osl (ex || es.isEmpty) false sz es) ∧ Leaf0 w G.S v (.osl (ex || es.isEmpty) false sz es) ∧ ∀ b, tok b v (.osl (ex || es.isEmpty) false sz es) ≤ tok b v (.osl ex fu sz' es) := by
    cases kr with
    | oslN _ _ _ => exact ⟨.oslN _ _ _, trivial, fun b => Yab _⟩
    | osl b o n cap _ _ _ _ hn hc hfu h0' hsz hrow =>
      by_cases he : es = []
      · subst he
        simp at hn; subst hn
        refine ⟨.osl _ _ _ _ _ _ _ _ rfl hc (fun hx => by simp at hx) (.inl h0) (by simp) (fun _ => by simp), ?_, fun b' => ?_⟩
        · intro hcnd
          simp at hcnd
          obtain ⟨k0, arr, elem, fz, k1, k2, k3, k4, k5⟩ := kl (.inr hcnd)
          rcases hs with rfl | ⟨hf, _⟩
          · exact ⟨k0, arr, elem, fz, k1, k2, k3, k4, fun _ => ⟨fun j hj => k4 j (by simpa using hj), fun i r j x hi => by simp at hi⟩⟩
          · have := hfu hf; omega
        · unfold tok; simp
      · have e1 : es.isEmpty = false := by simpa using he
        have e2 : sz' = sz := by
          rcases hs with h | ⟨_, h⟩
          · exact h
          · exact absurd h he
        subst e2
        simp only [e1, Bool.or_false]
        exact ⟨.osl _ _ _ _ _ _ _ _ hn hc (fun hx => by simp at hx) h0' hsz hrow, kl, fun b' => Yab _⟩
  obtain ⟨q1, q2, q3⟩ := key
  have q4 : ∀ b, tokT b v (.osl (ex || es.isEmpty) false sz es) ≤ tokT b v (.osl ex fu sz' es) := fun b => by rw [Zda rfl, Zda rfl]; exact q3 b
  refine ⟨{ L := h.L, P := h.P.tail.cons q1 (by rw [Zdu rfl, Zfk rfl]; exact q2), len := h.len, nd := h.nd, obS := h.obS, H := h.H, S := h.S, dfr := h.dfr, one := ?_, noob := ?_ }, ?_⟩
  · intro b; have := h.one b; have := q4 b; simp only [sumZ] at *; omega
  · intro b hb; have := h.noob b hb; have := q4 b; simp only [sumZ] at *; omega
  · intro b; have := q4 b; simp only [cntS, sumZ] at *; omega
theorem own_cells {a : Addr} {ex fu : Bool} {n cap sz : Nat} {es : List (List E)} (kr : RelD w G (.slice (some a) n cap) (.osl ex fu sz es)) (kl : LeafT w G.S (.slice (some a) n cap) (.osl ex fu sz es)) :
    ∃ b o, a = ⟨b, o, none⟩ ∧ n = es.length ∧ n ≤ cap ∧ (fu = true → cap = n) ∧ (∀ r ∈ es, r.length = sz) ∧ ∀ i r j x, es[i]? = some r → r[j]? = some x → ∃ v, w.cell? ⟨b, o + i * sz + j, none⟩ = some v ∧ RelE w G.S v x := by
  rw [Zdu rfl, Zfk rfl] at kl
  cases kr with
  | osl b o n cap _ _ _ _ hn hc hfu h0 hsz hrow =>
    refine ⟨b, o, rfl, hn, hc, hfu, hsz, fun i r j x hi hj => ?_⟩
    cases ex with
    | false => obtain ⟨_, v, h1, h2⟩ := hrow rfl i r hi j x hj; exact ⟨v, h1, h2⟩
    | true =>
      obtain ⟨k0, arr, elem, fz, k1, k2, k3, k4, k5⟩ := kl (.inl ⟨rfl, fun e => by subst e; simp at hi⟩)
      obtain ⟨v, q1, q2⟩ := (k5 rfl).2 i r j x hi hj
      exact ⟨v, by simp only [World.cell?, k1]; simpa using q1, q2⟩
theorem Zxe (m : Nat) : ∀ (k c : Nat), c ≤ 2 * m + 1024 → c < 2 * m + 1024 → Builtin.growBy m k c ≤ 2 * m + 1024
  | 0, c, h, _ => by simpa [Builtin.growBy] using h
  | k + 1, c, h, h' => by
    rw [Builtin.growBy]
    split
    · exact h
    · rename_i hlt
      by_cases h2 : c + (c + 768) / 4 < 2 * m + 1024
      · exact Zxe m k _ (by omega) h2
      · exfalso; omega
theorem nextcap_le {need cap : Nat} (h : cap < need) : Builtin.nextslicecap need cap ≤ 2 * need + 1024 := by
  unfold Builtin.nextslicecap
  split
  · omega
  · split
    · omega
    · exact Zxe need 4 cap (by omega) (by omega)
theorem Zui {zero : Array Value} {n : Nat} : (Builtin.zeroCells zero n).size = n * zero.size := by simp [Builtin.zeroCells]
theorem Zq7 {v : Value} {z : D} (h : ofV v = some z) : v.cells.size = (cellsOf z).length := by
  rcases Zsp (w := default) (G := ⟨[], fun _ _ => False⟩) h with ⟨a, q, c⟩ | ⟨rfl, rfl⟩
  · exact (Zkp a c).1
  · rfl
set_option maxHeartbeats 2000000 in
theorem run_append {v : Value} {ex fu : Bool} {sz sz' by_ : Nat} {es xs : List (List E)} (h : RelSt w G tm df (v :: pv) (.osl ex fu sz' es :: pd) s) {ats : Array TypeId} {t tx e : TypeId} {ty : TypeId} {xv : Value} {z : D}
    (ha : ats[0]? = some t) (hb : ats[1]? = some tx) (hu : P.underlying t = some (.slice e)) (hux : P.underlying tx = some .string ∨ ∃ e', P.underlying tx = some (.slice e'))
    (hsz : szOf P e = some sz) (hby : Zm6 P e = some by_) (hz : Zhb P e = some z) (hzl : (cellsOf z).length = sz) (h0 : 0 < sz) (hb1 : by_ ≤ 16384)
    (hlen : es.length + xs.length ≤ 1073741824) (hs : sz' = sz ∨ (fu = true ∧ es = [])) (hxr : ∀ r ∈ xs, r.length = sz)
    (hx : ∀ w', w' = w ∨ w' = w.drew → (Builtin.lenOf xv).run P w' = .ok xs.length w' ∧ ∃ new : List Value, (Builtin.firstCells sz xs.length xv).run P w' = .ok new.toArray w' ∧ new.length = xs.length * sz ∧ Znd w' G.S new sz xs ∧ ∀ v ∈ new, v.oneCell' = true) :
    ∃ w' G' v', (Builtin.append_ ats ty #[v, xv]).run P w = .ok v' w' ∧ RelSt w' G' tm df (v' :: pv) (.osl (ex || es.isEmpty) false sz (es ++ xs) :: pd) s ∧
      Ext w G (cntS w G tm (v :: pv) (.osl ex fu sz' es :: pd) s) w' G' (cntS w' G' tm (v' :: pv) (.osl (ex || es.isEmpty) false sz (es ++ xs) :: pd) s) := by
  obtain ⟨hx1, new, hx2, hx3, hx4, hx5⟩ := hx w (.inl rfl)
  obtain ⟨hd1, newd, hd2, hd3, hd4, hd5⟩ := hx w.drew (.inr rfl)
  obtain ⟨inf, hi1, hi2⟩ := Zox hby w
  obtain ⟨zv, hz1, hz2⟩ := Zjh hz w.drew
  have hzs : zv.cells.size = sz := (Zq7 hz2).trans hzl
  obtain ⟨kr, kl⟩ := h.P.head
  have hv : ∃ a cap, v = .slice a es.length cap ∧ es.length ≤ cap ∧ (fu = true → cap = es.length) ∧
      (a = none → es = [] ∧ cap = 0) ∧ ∀ a', a = some a' → ∃ b o, a' = ⟨b, o, none⟩ ∧ (∀ r ∈ es, r.length = sz') ∧ ∀ i r j x, es[i]? = some r → r[j]? = some x → ∃ v, w.cell? ⟨b, o + i * sz' + j, none⟩ = some v ∧ RelE w G.S v x := by
    cases kr with
    | oslN _ _ _ => exact ⟨none, 0, rfl, Yab _, (fun _ => rfl), (fun _ => ⟨rfl, rfl⟩), (fun a' he => by cases he)⟩
    | osl b o n cap _ _ _ _ hn hc hfu h0' hsz0 hrow =>
      obtain ⟨b1, o1, e1, e2, e3, e4, e5, e6⟩ := own_cells (.osl b o n cap sz' es ex fu hn hc hfu h0' hsz0 hrow) kl
      cases e1
      subst e2
      exact ⟨some ⟨b, o, none⟩, cap, rfl, hc, hfu, (fun he => by cases he), (fun a' he => by cases he; exact ⟨b, o, rfl, e5, e6⟩)⟩
  obtain ⟨a, cap, rfl, hc, hfu, hnone, hsome⟩ := hv
  by_cases hfit : es.length + xs.length ≤ cap
  · -- in place
    by_cases hm : xs = []
    · subst hm
      obtain ⟨q1, q2⟩ := h.loose h0 hs
      have hrun : (Builtin.append_ ats ty #[.slice a es.length cap, xv]).run P w = .ok (.slice a es.length cap) w := by
        have hn0 : new = [] := by simpa using hx3
        subst hn0
        simp only [List.length_nil, Nat.add_zero] at hfit hx1 hx2
        unfold Builtin.append_
        rcases hux with hux | ⟨e', hux⟩ <;> (cases a <;> simp [ha, hb, run_underlying hu, run_underlying hux, Zhe hsz, hx1, hx2, hc, storeCells])
      exact ⟨w, G, _, hrun, by simpa using q1, (Ext.refl w G _).weaken (fun _ => Yab _) (fun b _ => by simpa using q2 b)⟩
    · have hml : 0 < xs.length := List.length_pos_iff.2 hm
      cases a with
      | none => obtain ⟨_, e2⟩ := hnone rfl; omega
      | some a' =>
        obtain ⟨b, o, rfl, hsz0, hcells⟩ := hsome a' rfl
        have e2 : sz' = sz := by
          rcases hs with h' | ⟨h', h''⟩
          · exact h'
          · have := hfu h'; omega
        subst e2
        obtain ⟨g1, g2, G', g3, g4⟩ := h.growIn (xs := xs) (new := new) h0 rfl (by omega) hfit hx3 hx4 hxr hx5
        refine ⟨_, G', _, ?_, g3, g4⟩
        have hst := run_storeCells_cells (P := P) b (o + es.length * sz') new 0 w (fun j hj => by simpa using g1 j hj) (fun j hj => by simpa using g2 j hj) hx5
        simp only [Nat.add_zero] at hst
        unfold Builtin.append_
        rcases hux with hux | ⟨e', hux⟩ <;> simp [ha, hb, run_underlying hu, run_underlying hux, Zhe hsz, hx1, hx2, hfit, Addr.add_none, hst]
  · -- a new array
    have hcap : cap < es.length + xs.length := by omega
    have hnx := nextcap_le hcap
    have hbig : ¬ (Builtin.nextslicecap (es.length + xs.length) cap * inf.bytes > 2 ^ 48) := by
      have : Builtin.nextslicecap (es.length + xs.length) cap * inf.bytes ≤ (2 * (es.length + xs.length) + 1024) * 16384 := Nat.mul_le_mul hnx (by omega)
      have : (2 * (es.length + xs.length) + 1024) * 16384 ≤ (2 * 1073741824 + 1024) * 16384 := Nat.mul_le_mul_right _ (by omega)
      omega
    obtain ⟨newCap, hnc⟩ : ∃ c, c = (Question.appendCap (es.length + xs.length) cap e).cut (w.tape w.drawn (.appendCap (es.length + xs.length) cap e)) := ⟨_, rfl⟩
    have hncle : es.length + xs.length ≤ newCap := by rw [hnc]; simp only [Question.cut]; omega
    obtain ⟨d1, d2⟩ := h.drew
    have hold : ∃ old : List Value, (Builtin.firstCells sz es.length (.slice a es.length cap)).run P w.drew = .ok old.toArray w.drew ∧ old.length = es.length * sz ∧ Znd w.drew G.S old sz es := by
      cases a with
      | none =>
        obtain ⟨rfl, _⟩ := hnone rfl
        exact ⟨[], rfl, by simp, fun i r j x hi => by simp at hi⟩
      | some a' =>
        obtain ⟨b, o, rfl, hsz0, hcells⟩ := hsome a' rfl
        by_cases he : es = []
        · subst he
          obtain ⟨old, k1, k2, k3, _⟩ := Zsq (P := P) (w := w.drew) (G := G) (b := b) (o := o) (sz := sz) (es := []) (by simp) (fun i r j x hi => by simp at hi)
          exact ⟨old, k1, k2, k3⟩
        · have e2 : sz' = sz := by
            rcases hs with h' | ⟨_, h''⟩
            · exact h'
            · exact absurd h'' he
          subst e2
          obtain ⟨old, k1, k2, k3, _⟩ := Zsq (P := P) (w := w.drew) (G := G) (b := b) (o := o) hsz0 (fun i r j x hi hj => by
            obtain ⟨v, q1, q2⟩ := hcells i r j x hi hj
            exact ⟨v, q1, q2.mono (fun _ _ h => h) (fun _ _ _ => rfl)⟩)
          exact ⟨old, k1, k2, k3⟩
    obtain ⟨old, ho1, ho2, ho3⟩ := hold
    have hrows : ∀ r ∈ es, r.length = sz := by
      intro r hr
      have hne : es ≠ [] := fun e => by subst e; simp at hr
      have e2 : sz' = sz := by
        rcases hs with h' | ⟨_, h''⟩
        · exact h'
        · exact absurd h'' hne
      subst e2
      cases a with
      | none => exact absurd (hnone rfl).1 hne
      | some a' => obtain ⟨b, o, _, hsz0, _⟩ := hsome a' rfl; exact hsz0 r hr
    let arr : Array Value := old.toArray ++ newd.toArray ++ Builtin.zeroCells zv.cells (newCap - (es.length + xs.length))
    have harr : arr.size = newCap * sz := by
      have : newCap * sz = (es.length + xs.length) * sz + (newCap - (es.length + xs.length)) * sz := by rw [← Nat.add_mul]; congr 1; omega
      simp [arr, ho2, hd3, Zui, hzs, this, Nat.add_mul]; omega
    have hblk : (w.drew.alloc (.cells arr e)).heap[w.drew.heap.size]? = some (.cells arr e (0, 0)) := by rw [Zha, if_pos rfl]
    obtain ⟨f1, f2⟩ := d1.drop.fresh (w' := w.drew.alloc (.cells arr e)) (arr := arr) (elem := e) (fz := (0, 0)) (n := es.length + xs.length) (cap := newCap) (sz := sz) (es := es ++ xs) (fu := false)
      (by simp) (fun b hb => Zfw _ _ hb) hblk (fun j hj => by simp only [World.frozen?, hblk]; simp) (by simp) hncle (fun hx => by simp at hx) h0
      (fun r hr => (List.mem_append.1 hr).elim (hrows r) (hxr r)) (by omega)
      (by simp only [arr, Array.toList_append]; exact Zu7 (Zxd ho3 ho2 hd4 hrows)) ⟨rfl, rfl⟩
    have hrun : (Builtin.append_ ats ty #[.slice a es.length cap, xv]).run P w = .ok (.slice (some ⟨w.drew.heap.size, 0, none⟩) (es.length + xs.length) newCap) (w.drew.alloc (.cells arr e)) := by
      have hq : (choose (Question.appendCap (es.length + xs.length) cap e)).run P w = .ok newCap w.drew := by
        rw [run_choose, hnc]; rfl
      have hi1' : (typeInfo e).run P w.drew = .ok inf w.drew := by
        have := Zox hby w.drew
        obtain ⟨inf2, a1, a2⟩ := this
        unfold typeInfo at hi1 a1 ⊢
        cases hinfo : P.info? e with
        | none => simp [hinfo] at hi1
        | some ii => simp [hinfo] at hi1 ⊢; exact hi1
      have hint : ¬ (((es.length + xs.length : Nat) : Int) > IntKind.i64.max ∧ inf.bytes = 0) := by
        have : IntKind.i64.max = 9223372036854775807 := by decide
        rw [this]; omega
      have hint' : ¬ (((es.length : Int) + (xs.length : Int)) > IntKind.i64.max ∧ inf.bytes = 0) := by
        have : IntKind.i64.max = 9223372036854775807 := by decide
        rw [this]; omega
      unfold Builtin.append_
      rcases hux with hux | ⟨e', hux⟩
      · simp [ha, hb, run_underlying hu, run_underlying hux, Zhe hsz, hx1, hfit, hi1, hbig, -run_choose, hq, hi1', ho1, hd2, hz1, newRow, arr]
        try exact fun hh1 hh2 => absurd ⟨hh1, hh2⟩ hint'
      · simp [ha, hb, run_underlying hu, run_underlying hux, Zhe hsz, hx1, hfit, hi1, hbig, -run_choose, hq, hi1', ho1, hd2, hz1, newRow, arr]
        try exact fun hh1 hh2 => absurd ⟨hh1, hh2⟩ hint'
    have hext : Ext w G (cntS w G tm (.slice a es.length cap :: pv) (.osl ex fu sz' es :: pd) s) (w.drew.alloc (.cells arr e)) G (cntS (w.drew.alloc (.cells arr e)) G tm (.slice (some ⟨w.drew.heap.size, 0, none⟩) (es.length + xs.length) newCap :: pv) (.osl true false sz (es ++ xs) :: pd) s) :=
      (d2.weaken (fun _ => Yab _) (fun b hb => Nat.le_trans (Zh3 b) (d2.cnt b hb))).trans f2
    cases hex : (ex || es.isEmpty) with
    | true => exact ⟨_, G, _, hrun, f1, hext⟩
    | false =>
      obtain ⟨s1, s2, _, _⟩ := f1.toSeal rfl
      exact ⟨_, _, _, hrun, s1, hext.trans s2⟩
theorem Zxr {t : TypeId} {d x : D} {str : Bool} {r : D} (h : Zfz P t d x str = some r) :
    ∃ e sz by_ z ex fu sz' es xs, P.underlying t = some (.slice e) ∧ szOf P e = some sz ∧ Zm6 P e = some by_ ∧ Zhb P e = some z ∧ (cellsOf z).length = sz ∧ 0 < sz ∧ by_ ≤ 16384 ∧ (∀ r ∈ xs, r.length = sz) ∧
      d = .osl ex fu sz' es ∧ es.length + xs.length ≤ 1073741824 ∧ (sz' = sz ∨ (fu = true ∧ es = [])) ∧ r = .osl (ex || es.isEmpty) false sz (es ++ xs) ∧
      ((str = true ∧ ∃ b, x = .e (.str b) ∧ xs = strE b) ∨ (str = false ∧ slOf x = some xs)) := by
  unfold Zfz at h
  split at h
  · rename_i e he
    split at h
    · rename_i sz by_ z xs h1 h2 h3 h4
      split at h
      · rename_i hc
        obtain ⟨c1, c2, c3, c4⟩ := hc
        split at h
        · rename_i ex fu sz' es
          split at h
          · rename_i hc2
            simp at h
            have hu : P.underlying t = some (.slice e) := by
              unfold Zw3 at he; split at he
              · simp at he; subst he; assumption
              · simp at he
            have hz : ∃ z0, Zhb P e = some z0 ∧ cellsOf z0 = z := by
              unfold Zf3 at h3
              obtain ⟨d, a1, a2⟩ := Option.bind_eq_some_iff.1 h3
              split at a2
              · simp at a2; exact ⟨d, a1, a2⟩
              · simp at a2
            obtain ⟨z0, hz0, rfl⟩ := hz
            refine ⟨e, sz, by_, z0, ex, fu, sz', es, xs, hu, h1, h2, hz0, c1, c2, c3, by simpa [Zlm] using c4, rfl, hc2.1, ?_, h.symm, ?_⟩
            · rcases hc2.2 with q | ⟨q1, q2⟩
              · exact .inl q
              · exact .inr ⟨q1, by simpa using q2⟩
            · split at h4
              · rename_i b
                cases str <;> simp at h4
                exact .inl ⟨rfl, b, rfl, h4.symm⟩
              · cases str <;> simp at h4
                exact .inr ⟨rfl, h4⟩
          · simp at h
        · simp at h
      · simp at h
    · simp at h
  · simp at h
def constsOf (c : Call) : Array Bool := c.args.map fun | .const _ => true | _ => false
theorem Zjw {o : Oper} {c : Call} {b : Builtin} (ho : o.op = .call c) (hc : c.callee = .builtin b) (ρ : Operand → Value) :
    (execOp ρ o).run P w = (builtin b c.argTypes o.type (constsOf c) (c.args.map ρ)).run P w := by
  simp only [execOp, ho, resolve, hc, Sem.run_bind, Sem.run_pure, Result.andThen_ok, invoke]
  rfl
theorem sh_slOf {v : Value} {d : D} {sz : Nat} {xs : List (List E)} {w' : World} (hw : w' = w ∨ w' = w.drew) (h : RelD w G v d) (ho : ownD d = false) (hs : slOf d = some xs) (hr : ∀ r ∈ xs, r.length = sz) :
    (Builtin.lenOf v).run P w' = .ok xs.length w' ∧ ∃ new : List Value, (Builtin.firstCells sz xs.length v).run P w' = .ok new.toArray w' ∧ new.length = xs.length * sz ∧ Znd w' G.S new sz xs ∧ ∀ v ∈ new, v.oneCell' = true := by
  refine Ztb (G := G) ?_ ho hs hr
  rcases hw with rfl | rfl
  · exact h
  · exact h.mono ⟨fun _ _ h => h, fun _ _ h => h, fun _ _ _ => rfl⟩
theorem op_append (h : RelSt w G tm df pv pd s) {rest : List Oper} {o : Oper} {c : Call} (ho : o.op = .call c) (hc : c.callee = .builtin .append) {d : D} {s1 : St} (hx : exOp P rest o s = some (.val d, s1)) : Ziv P w G tm df pv pd s o d s1 := by
  simp only [exOp, ho, hc] at hx
  unfold Zge at hx
  split at hx
  all_goals first | (simp at hx; done) | skip
  all_goals rename_i heq1 heq2
  all_goals try (cases heq1; done)
  · rename_i x y
    have hargs : c.args = #[x, y] := by
      apply Array.ext'; simpa using heq2
    split at hx
    · rename_i d1 s2 t ty h1 h2 h3
      split at hx
      · rename_i str hstr
        split at hx
        · rename_i v s3 h4
          simp at hx
          obtain ⟨r, h5, rfl, rfl⟩ := hx
          obtain ⟨k1, k2, k3, k4, k5⟩ := Zs2 h h1
          obtain ⟨G1, m1, m2, m3, m4, m5, m6⟩ := Zon k1 h4
          obtain ⟨e, sz, by_, z, ex, fu, sz', es, xs, a1, a2, a3, a4, a5, a6, a7, a8, rfl, a10, a11, rfl, a13⟩ := Zxr h5
          have hux : P.underlying ty = some .string ∨ ∃ e', P.underlying ty = some (.slice e') := by
            split at hstr
            · exact .inl (by assumption)
            · exact .inr ⟨_, by assumption⟩
            · simp at hstr
          have hxx : ∀ w', w' = w ∨ w' = w.drew → (Builtin.lenOf (ev tm y)).run P w' = .ok xs.length w' ∧ ∃ new : List Value, (Builtin.firstCells sz xs.length (ev tm y)).run P w' = .ok new.toArray w' ∧ new.length = xs.length * sz ∧ Znd w' G1.S new sz xs ∧ ∀ v ∈ new, v.oneCell' = true := by
            intro w' hw'
            rcases a13 with ⟨_, b, rfl, rfl⟩ | ⟨_, q⟩
            · have e1 := Zk9 m1.P.head.1
              have e2 : sz = 1 ∨ strE b = [] := by
                cases hb : strE b with
                | nil => exact .inr rfl
                | cons r l =>
                  refine .inl ?_
                  have q1 := a8 r (by rw [hb]; simp)
                  have q2 := Zwi b r (by rw [hb]; simp)
                  omega
              obtain ⟨q1, new, q2, q3, q4, q5⟩ := Zpu (P := P) (w := w') (G := G1) b
              rw [e1]
              refine ⟨q1, ?_⟩
              rcases e2 with rfl | e2
              · exact ⟨new, q2, q3, q4, q5⟩
              · refine ⟨[], ?_, by simp [e2], fun i r j x hi => by simp [e2] at hi, fun v hv => by simp at hv⟩
                rw [e2] at q2 q3 ⊢
                have : new = [] := by simpa using q3
                subst this; exact q2
            · exact sh_slOf hw' m1.P.head.1 (Zs8 h4) q a8
          obtain ⟨w', G2, v', b1, b2, b3⟩ := run_append (P := P) (ats := c.argTypes) (ty := o.type) m1.drop (by simpa using h2) (by simpa using h3) a1 hux a2 a3 a4 a5 a6 a7 a10 a11 a8 hxx
          refine ⟨w', G2, _, v', ?_, .inl rfl, b2, ?_, m5.trans k4, m6.trans k5⟩
          · rw [Zjw ho hc, hargs]
            simp [builtin, b1]
          · refine ((m3.weaken (fun b => Nat.le_of_eq (k2 b)) (fun b hb => Nat.le_trans (Zh3 b) (Nat.le_trans (m3.cnt b hb) (Nat.le_of_eq (k2 b)))))).trans (b3.weaken (fun _ => Yab _) (fun b hb => b3.cnt b hb))
        · simp at hx
      · simp at hx
    · simp at hx
end
end Go.Abs
namespace Go.Abs
section
variable {P : Program} {w : World} {G : Gh} {tm : List Value} {df : List Deferred} {pv : List Value} {pd : List D} {s : St}
theorem Zs0 : ∀ (es : List (List E)) (bs : List UInt8), Zi7 es = some bs → es.length = bs.length ∧ ∀ (i : Nat) (r : List E), es[i]? = some r → ∃ n : Int, r = [.int .u8 n] ∧ bs[i]? = some (UInt8.ofNat n.toNat)
  | [], bs, h => by simp [Zi7] at h; subst h; exact ⟨rfl, fun i r hi => by simp at hi⟩
  | x :: xs, bs, h => by
    simp only [Zi7] at h
    split at h
    · rename_i b bs' h1 h2
      simp at h; subst h
      obtain ⟨k1, k2⟩ := Zs0 xs bs' h2
      refine ⟨by simp [k1], fun i r hi => ?_⟩
      cases i with
      | zero =>
        simp at hi; subst hi
        unfold Zs1 at h1
        split at h1
        · rename_i n; simp at h1; subst h1; exact ⟨n, rfl, by simp⟩
        · simp at h1
      | succ i => simpa using k2 i r (by simpa using hi)
    · simp at h
theorem Zwp {v : Value} {d : D} {es : List (List E)} {bs : List UInt8} (h : RelD w G v d) (ho : ownD d = false) (hs : slOf d = some es) (hb : Zi7 es = some bs) :
    (Conv.bytesToString v).run P w = .ok (.string ⟨bs.toArray⟩) w := by
  obtain ⟨k1, k2⟩ := Zs0 es bs hb
  have hlen : ∀ r ∈ es, r.length = 1 := by
    intro r hr
    obtain ⟨i, hi⟩ := List.getElem?_of_mem hr
    obtain ⟨n, rfl, _⟩ := k2 i r hi; rfl
  rcases Znl h ho hs with ⟨rfl, rfl⟩ | ⟨b, o, cap, sz, rfl, q1, q2, q3, q4⟩
  · simp at k1
    have : bs = [] := by simpa using k1.symm
    subst this
    simp [Conv.bytesToString]; rfl
  · -- the numbers that the cells hold
    let ns : List Int := es.map fun r => match r with | [.int .u8 n] => n | _ => 0
    have hload : (loadCells ⟨b, o, none⟩ es.length).run P w = .ok (ns.map (Value.int .u8)).toArray w := by
      have := run_loadCells_list (P := P) w ⟨b, o, none⟩ (ns.map (Value.int .u8)) (fun j v hj => by
        simp only [ns, List.getElem?_map] at hj
        cases he : es[j]? with
        | none => rw [he] at hj; simp at hj
        | some r =>
          obtain ⟨n, rfl, _⟩ := k2 j r he
          rw [he] at hj; simp at hj; subst hj
          have hsz : sz = 1 := (q3 _ (Yaa he)).symm
          subst hsz
          obtain ⟨_, u, r1, r2⟩ := q4 j _ he 0 _ rfl
          rw [Addr.add_none]
          rw [relE_int r2] at r1
          simpa using r1)
      simpa [ns] using this
    rw [run_bytesToString w _ _ _ ns hload]
    congr 2
    have aux : ∀ (es : List (List E)) (bs : List UInt8) (acc : ByteArray), Zi7 es = some bs →
        (es.map fun r => match r with | [.int .u8 n] => n | _ => 0).foldl (fun r (n : Int) => r.push (UInt8.ofNat n.toNat)) acc = ⟨acc.data ++ bs.toArray⟩ := by
      intro es
      induction es with
      | nil => intro bs acc h; simp [Zi7] at h; subst h; simp
      | cons x xs ih =>
        intro bs acc h
        simp only [Zi7] at h
        split at h
        · rename_i b bs' h1 h2
          simp at h; subst h
          unfold Zs1 at h1
          split at h1
          · rename_i n
            simp at h1; subst h1
            simp only [List.map_cons, List.foldl_cons]
            rw [ih bs' _ h2]
            show (⟨_⟩ : ByteArray) = _
            congr 1
            apply Array.ext'
            simp [ByteArray.push]
          · simp at h1
        · simp at h
    have := aux es bs ByteArray.empty hb
    rw [this]
    show (⟨_⟩ : ByteArray) = _
    simp [ByteArray.empty, ByteArray.emptyWithCapacity]
    rfl
theorem op_convert (h : RelSt w G tm df pv pd s) {rest : List Oper} {o : Oper} {src dst : TypeId} {x : Operand} (ho : o.op = .convert src dst x) {d : D} {s1 : St} (hx : exOp P rest o s = some (.val d, s1)) : Ziv P w G tm df pv pd s o d s1 := by
  simp only [exOp, ho] at hx
  split at hx
  · rename_i a s2 h1
    simp at hx
    obtain ⟨d', h2, rfl, rfl⟩ := hx
    have hown := Zs8 h1
    unfold Zw6 at h2
    split at h2
    · rename_i ks kd kx n hs hd
      simp at h2; subst h2
      refine Zl5 h h1 (fun G' _ hr => ?_)
      have e := Zgb hr
      exact ⟨_, by simp [execOp, ho, e, convert, run_underlying hs, run_underlying hd, Conv.intToInt], .e _ _ (.int _ _), fun b => by rw [Zda rfl, Zme]⟩
    · rename_i b hs hd
      simp at h2; subst h2
      refine Zl5 h h1 (fun G' _ hr => ?_)
      have e := Zk9 hr
      exact ⟨_, by simp [execOp, ho, e, convert, run_underlying hs, run_underlying hd], .e _ _ (.str _), fun b => by rw [Zda rfl, Zme]⟩
    · rename_i el b hs hd
      split at h2
      · rename_i he
        split at h2
        · rename_i hb
          simp at h2; subst h2
          obtain ⟨G1, m1, m2, m3, m4, m5, m6⟩ := Zon h h1
          have e := Zk9 m1.P.head.1
          obtain ⟨d1, d2⟩ := m1.drop.drew
          obtain ⟨cap, hcap⟩ : ∃ c, c = (Question.appendCap b.size 0 el).cut (w.tape w.drawn (.appendCap b.size 0 el)) := ⟨_, rfl⟩
          have hle : b.size ≤ cap := by rw [hcap]; simp only [Question.cut]; omega
          let arr : Array Value := b.data.map (fun x => Value.int .u8 x.toNat) ++ Array.replicate (cap - b.size) (.int .u8 0)
          have harr : arr.size = cap := by
            have : b.data.size = b.size := rfl
            simp [arr, this]; omega
          let W := (w.drew.alloc (.cells arr el)).freeze ⟨w.heap.size, cap, none⟩ 1
          have hW : ∀ k, W.heap[k]? = if k = w.heap.size then some (.cells arr el (cap, cap + 1)) else w.heap[k]? := by
            intro k
            have h0 : (w.drew.alloc (.cells arr el)).heap[k]? = if k = w.heap.size then some (.cells arr el) else w.heap[k]? := Zha w.drew _ k
            simp only [W, World.freeze, Nat.one_ne_zero, if_false, Array.getElem?_modify, h0]
            by_cases hk : k = w.heap.size
            · subst hk; simp
            · rw [if_neg (fun e => hk e.symm), if_neg hk, if_neg hk]
          have hWs : W.heap.size = w.heap.size + 1 := by simp [W, World.freeze]
          have hblk : W.heap[w.drew.heap.size]? = some (.cells arr el (cap, cap + 1)) := by
            show W.heap[w.heap.size]? = _
            rw [hW, if_pos rfl]
          obtain ⟨f1, f2⟩ := d1.fresh (w' := W) (arr := arr) (elem := el) (fz := (cap, cap + 1)) (n := b.size) (cap := cap) (sz := 1) (es := strE b) (fu := false)
            hWs (fun k hk => by
              have hk' : k < w.heap.size := hk
              rw [hW, if_neg (by omega)]; rfl) hblk (fun j hj => by simp only [World.frozen?, hblk]; simp; omega) (Zrj b).symm hle (fun hx => by simp at hx) (by omega) (Zwi b)
            (by simp [harr]) (by
              have := Ztr (w := w.drew) (G := G1) b
              simp only [arr, Array.toList_append]
              refine Zu7 ?_
              simpa using this) ⟨rfl, rfl⟩
          refine ⟨W, G1, _, _, ?_, .inl rfl, f1, ?_, m5, m6⟩
          · have hq : (choose (Question.appendCap b.size 0 el)).run P w = .ok cap w.drew := by rw [run_choose, hcap]; rfl
            have hsh : (w.drew.alloc (.cells arr el)).shape? w.heap.size = some (el, arr.size) := by
              have : (w.drew.alloc (.cells arr el)).heap[w.heap.size]? = some (.cells arr el) := by
                have := Zha w.drew (.cells arr el) w.heap.size
                rw [this]; exact if_pos rfl
              simp only [World.shape?, this]
            simp only [execOp, ho, e, convert, Sem.run_bind, run_underlying hs, run_underlying hd, run_underlying he, Result.andThen_ok, Conv.stringToBytes, hq, newRow, run_newObj, Sem.run_pure, markStringish]
            have hsz : w.drew.heap.size = w.heap.size := rfl
            simp only [hsz, World.alloc_eq]
            simp only [run_shape]
            rw [show (b.data.map (fun x => Value.int .u8 x.toNat) ++ Array.replicate (cap - b.size) (.int .u8 0)) = arr from rfl]
            simp only [hsh, Result.andThen_ok, run_freeze, harr]
            rfl
          · exact ((m3.weaken (fun _ => Yab _) (fun b hb => Nat.le_trans (Zh3 b) (m3.cnt b hb))).trans d2).trans f2
        · simp at h2
      · simp at h2
    · rename_i el x' hs hd
      split at h2
      · rename_i es he hes
        simp at h2
        obtain ⟨bs, hb, rfl⟩ := h2
        refine Zl5 h h1 (fun G' _ hr => ?_)
        have hrun := Zwp (P := P) hr hown hes hb
        refine ⟨_, ?_, .e _ _ (.str _), fun b => by rw [Zda rfl, Zme]⟩
        obtain ⟨a0, n0, c0, e0⟩ := Zts hr hes
        rw [e0] at hrun
        simp only [execOp, ho, e0, convert, Sem.run_bind, run_underlying hs, run_underlying hd, run_underlying he, Result.andThen_ok, hrun, Sem.run_pure]
      · simp at h2
    · simp at h2
  · simp at hx
theorem op_len (h : RelSt w G tm df pv pd s) {rest : List Oper} {o : Oper} {c : Call} (ho : o.op = .call c) (hc : c.callee = .builtin .len) {d : D} {s1 : St} (hx : exOp P rest o s = some (.val d, s1)) : Ziv P w G tm df pv pd s o d s1 := by
  simp only [exOp, ho, hc] at hx
  unfold Zge at hx
  split at hx
  all_goals first | (simp at hx; done) | skip
  all_goals rename_i heq1 heq2
  all_goals try (cases heq1; done)
  · rename_i x
    have hargs : c.args = #[x] := by apply Array.ext'; simpa using heq2
    split at hx
    · rename_i d0 t h1 h2
      obtain ⟨n, h3, h4⟩ := Option.map_eq_some_iff.1 hx
      simp only [Prod.mk.injEq, Out.val.injEq] at h4
      obtain ⟨rfl, rfl⟩ := h4
      have hr := Zh1 h h1
      have key : (Builtin.len_ c.argTypes o.type #[ev tm x]).run P w = .ok (.int .i64 n) w := by
        have ha : c.argTypes[0]? = some t := by simpa using h2
        unfold len0 at h3
        split at h3
        · rename_i b hu
          simp at h3; subst h3
          simp [Builtin.len_, ha, run_underlying hu, Zk9 hr, goInt]
        · rename_i n0 e0 hu
          simp at h3; subst h3
          simp [Builtin.len_, ha, run_underlying hu, goInt]
        · rename_i e0 es hu
          simp at h3; subst h3
          rcases (Zg8 hr).rows with ⟨rfl, e1⟩ | ⟨b, o', cap, sz, e1, _⟩ <;> simp [Builtin.len_, ha, run_underlying hu, e1, goInt]
        · rename_i e0 ex fu sz es hu
          simp at h3; subst h3
          have : ∃ a c, ev tm x = .slice a es.length c := by
            generalize ev tm x = v at hr
            cases hr with
            | oslN _ _ _ => exact ⟨_, _, rfl⟩
            | osl b o n cap _ _ _ _ hn => subst hn; exact ⟨_, _, rfl⟩
          obtain ⟨a, c', e1⟩ := this
          simp [Builtin.len_, ha, run_underlying hu, e1, goInt]
        · rename_i e0 n0 hu
          simp at h3; subst h3
          have : ∃ a c, ev tm x = .slice a n0 c := by
            generalize ev tm x = v at hr
            cases hr; exact ⟨_, _, rfl⟩
          obtain ⟨a, c', e1⟩ := this
          simp [Builtin.len_, ha, run_underlying hu, e1, goInt]
        · rename_i e0 i0 o0 n0 hu
          simp at h3; subst h3
          have : ∃ a c, ev tm x = .slice a n0 c := by
            generalize ev tm x = v at hr
            cases hr; exact ⟨_, _, rfl⟩
          obtain ⟨a, c', e1⟩ := this
          simp [Builtin.len_, ha, run_underlying hu, e1, goInt]
        · rename_i k0 e0 hu
          simp at h3; subst h3
          have e1 : ev tm x = .map none := by
            have := Zg8 hr
            generalize ev tm x = v at this
            cases this; rfl
          simp [Builtin.len_, ha, run_underlying hu, e1, goInt]
        · rename_i k0 e0 i hu
          split at h3
          · rename_i es hi
            simp at h3; subst h3
            have e1 : ∃ b, ev tm x = .map (some b) ∧ G.ob[i]? = some b := by
              generalize ev tm x = v at hr
              cases hr with | map i b h => exact ⟨b, rfl, h⟩
            obtain ⟨b, e1, hb⟩ := e1
            obtain ⟨ents, clock, q1, q2, q3⟩ := h.H i b _ hb hi
            simp [Builtin.len_, ha, run_underlying hu, e1, goInt, getObj, Sem.run, q1, q2]
          · simp at h3
        · simp at h3
      exact Zen h (by rw [Zjw ho hc, hargs]; simp [builtin, key]) (.e _ _ (.int _ _)) (fun b => by rw [Zda rfl, Zme])
    · simp at hx
end
end Go.Abs
namespace Go.Abs
section
variable {P : Program} {w : World} {G : Gh} {tm : List Value} {df : List Deferred} {pv : List Value} {pd : List D} {s : St}
def setB (w : World) (b : Nat) (x : Obj) : World := { w with heap := w.heap.setIfInBounds b x }
theorem Zsa {b : Nat} {x : Obj} (h : b < w.heap.size) : (setB w b x).heap[b]? = some x := by simp [setB, h]
theorem Zow {b b' : Nat} {x : Obj} (h : b' ≠ b) : (setB w b x).heap[b']? = w.heap[b']? := by
  simp only [setB]; rw [Array.getElem?_setIfInBounds_ne (by omega)]
theorem Zpt {b : Nat} {x : Obj} : (setB w b x).heap.size = w.heap.size := by simp [setB]
def Zvu : O → Bool
  | .cells _ => true
  | _ => false
theorem RelSt.setObj (h : RelSt w G tm df pv pd s) {i b : Nat} {o o' : O} {x : Obj} (hi : s.h[i]? = some o) (hb : G.ob[i]? = some b) (ho : Zvu o = false) (ho' : Zvu o' = false) (hnd : o ≠ .dead)
    (hr : Later w G (setB w b x) G → RelO (setB w b x) G b o') :
    RelSt (setB w b x) G tm df pv pd { s with h := s.h.set i o' } ∧ Ext w G (cntS w G tm pv pd s) (setB w b x) G (cntS (setB w b x) G tm pv pd { s with h := s.h.set i o' }) := by
  have hob : b ∈ G.ob := Yaa hb
  have hcell : ∀ b' j, G.S b' j → (setB w b x).cell? ⟨b', j, none⟩ = w.cell? ⟨b', j, none⟩ := by
    intro b' j hs
    have hne : b' ≠ b := fun e => by subst e; exact (h.obS i b' hb).2 (by rw [hi]; simpa using hnd) j hs
    simp only [World.cell?, Zow hne]
  have later : Later w G (setB w b x) G := ⟨fun _ _ h => h, fun _ _ h => h, hcell⟩
  have hno := h.noob b hob
  have keepB : ∀ b', 0 < cntS w G tm pv pd s b' → (setB w b x).heap[b']? = w.heap[b']? := fun b' hb' => Zow (fun e => by subst e; simp only [cntS] at hb'; omega)
  have hz : ∀ b' bi, Zg5 w b' bi o = 0 := fun b' bi => by cases o <;> simp_all [Zvu, Zg5]
  have hz' : ∀ (w : World) b' bi, Zg5 w b' bi o' = 0 := fun w b' bi => by cases o' <;> simp_all [Zvu, Zg5]
  have hh : ∀ b', hsum (setB w b x) b' G.ob (s.h.set i o') = hsum w b' G.ob s.h := by
    intro b'
    have e1 := Zqe (w := w) b' G.ob s.h i b o' o hb hi
    rw [hz, hz' w] at e1
    have e2 : hsum (setB w b x) b' G.ob (s.h.set i o') = hsum w b' G.ob (s.h.set i o') := by
      refine Zim _ _ (fun j bj oj h1 h2 => ?_)
      by_cases e : i = j
      · subst e
        rw [List.getElem?_set] at h2; simp at h2
        obtain ⟨_, rfl⟩ := h2
        rw [hz', hz']
      · exact Zht (Zow (fun e2 => e (Znt h.nd hb (e2 ▸ h1))))
    omega
  refine ⟨{ L := ?_, P := ?_, len := by simp [h.len], nd := h.nd, obS := ?_, H := ?_, S := ?_, one := ?_, noob := ?_, dfr := ?_ }, later, by rw [Zpt]; exact Yab _, fun b' hb' => .inl hb', fun _ _ _ _ _ hs => hs, fun b' _ _ hno' => Zow (fun e => hno' (e ▸ hob)), fun b' _ => ?_, rfl, rfl⟩
  · exact h.L.keep later (fun b' ht => ⟨keepB b' (by simp only [cntS]; omega), fun _ hs => hs⟩)
  · exact h.P.keep later (fun b' ht => ⟨keepB b' (by simp only [cntS]; omega), fun _ hs => hs⟩)
  · exact fun j b' hb' => ⟨by rw [Zpt]; exact (h.obS j b' hb').1, fun hd => by
      by_cases hij : i = j
      · subst hij; exact (h.obS i b' hb').2 (by rw [hi]; simpa using hnd)
      · exact (h.obS j b' hb').2 (by simp only at hd; rw [List.getElem?_set_ne hij] at hd; exact hd)⟩
  · intro j bj oj h1 h2
    simp only at h2
    by_cases e : i = j
    · subst e
      rw [List.getElem?_set] at h2; simp at h2
      obtain ⟨_, rfl⟩ := h2
      rw [hb] at h1; cases h1
      exact hr later
    · rw [List.getElem?_set_ne e] at h2
      exact (h.H j bj oj h1 h2).keep later (Zow (fun e2 => e (Znt h.nd hb (e2 ▸ h1)))) (fun b' ht => ⟨keepB b' (by
        have := Zsv (w := w) (i := j) b' G.ob s.h j h1 h2
        simp only [cntS]; omega), fun _ hs => hs⟩)
  · intro b' j hs; obtain ⟨u, hu⟩ := h.S b' j hs; exact ⟨u, (hcell b' j hs).trans hu⟩
  · intro b'; rw [hh]; exact h.one b'
  · intro b' hb'; rw [hh]; exact h.noob b' hb'
  · exact h.dfr.keep later (fun b' h1 h2 => ⟨Zow (fun e => h2 (e ▸ hob)), h2⟩)
  · simp only [cntS, hh]; exact Yab _
theorem Zr6 {kt : TypeId} {k : E} {v : Value} {e : Bool} (hk : Znx P kt k = true) (n : Nat) : (Instr.checkKey e (n + 1) kt v).run P w = .ok () w := by
  unfold Znx at hk
  split at hk <;> first | (simp at hk; done) | (rename_i hu; simp [Instr.checkKey, run_underlying hu])
theorem ba_eq {a b : ByteArray} (h : (a == b) = true) : a = b := by
  obtain ⟨x⟩ := a; obtain ⟨y⟩ := b
  have : (x == y) = true := h
  simp at this; rw [this]
theorem ba_refl (a : ByteArray) : (a == a) = true := by
  obtain ⟨x⟩ := a
  show (x == x) = true
  simp
def isKey : E → Bool
  | .bool _ | .int _ _ | .str _ => true
  | _ => false
theorem Zny {kt : TypeId} {k k' : E} {v v' : Value} {u : TypeDesc} {b : Bool} (hk : Znx P kt k = true) (hu : P.underlying kt = some u) (hv : RelE w G.S v k) (hv' : RelE w G.S v' k') (he : Zyv k k' = some b) :
    Instr.sameNow u v v' = some b ∧ (b = true → v = v') := by
  unfold Znx at hk
  rw [hu] at hk
  unfold Zyv at he
  split at he
  · cases hv; cases hv'
    simp at he; subst he
    cases u <;> first | (simp at hk; done) | exact ⟨rfl, fun h => by simp at h; subst h; rfl⟩
  · split at he
    · rename_i hkk
      cases hv; cases hv'
      simp at he; subst he; subst hkk
      cases u <;> first | (simp at hk; done) | exact ⟨by simp [Instr.sameNow], fun h => by simp at h; subst h; rfl⟩
    · simp at he
  · cases hv; cases hv'
    simp at he; subst he
    cases u <;> first | (simp at hk; done) | exact ⟨rfl, fun h => by have := ba_eq h; subst this; rfl⟩
  · simp at he
def RelM (w : World) (G : Gh) : List MapEntry → List (E × D) → Prop
  | [], [] => True
  | m :: ms, (k, d) :: es => RelE w G.S m.key k ∧ RelD w G m.val d ∧ Zkx d = true ∧ RelM w G ms es
  | _, _ => False
theorem relM_of : ∀ (ms : List MapEntry) (es : List (E × D)), ms.length = es.length → (∀ (i : Nat) (m : MapEntry) (k : E) (d : D), ms[i]? = some m → es[i]? = some (k, d) → RelE w G.S m.key k ∧ RelD w G m.val d ∧ Zkx d = true) → RelM w G ms es
  | [], [], _, _ => trivial
  | [], _ :: _, h, _ => by simp at h
  | _ :: _, [], h, _ => by simp at h
  | m :: ms, (k, d) :: es, h, hh => by
    obtain ⟨a, b, c⟩ := hh 0 m k d rfl rfl
    exact ⟨a, b, c, relM_of ms es (by simpa using h) (fun i m k d h1 h2 => hh (i + 1) m k d (by simpa using h1) (by simpa using h2))⟩
theorem relM_to : ∀ (ms : List MapEntry) (es : List (E × D)), RelM w G ms es → ms.length = es.length ∧ ∀ (i : Nat) (m : MapEntry) (k : E) (d : D), ms[i]? = some m → es[i]? = some (k, d) → RelE w G.S m.key k ∧ RelD w G m.val d ∧ Zkx d = true
  | [], [], _ => ⟨rfl, fun i m k d h => by simp at h⟩
  | [], _ :: _, h => h.elim
  | _ :: _, [], h => h.elim
  | m :: ms, (k, d) :: es, h => by
    obtain ⟨a, b, c, r⟩ := h
    obtain ⟨q1, q2⟩ := relM_to ms es r
    refine ⟨by simp [q1], fun i m' k' d' h1 h2 => ?_⟩
    cases i with
    | zero => simp at h1 h2; obtain ⟨rfl, rfl⟩ := h2; subst h1; exact ⟨a, b, c⟩
    | succ i => exact q2 i m' k' d' (by simpa using h1) (by simpa using h2)
theorem RelM.mono {w' : World} {G' : Gh} (k : Later w G w' G') : ∀ (ms : List MapEntry) (es : List (E × D)), RelM w G ms es → RelM w' G' ms es
  | [], [], _ => trivial
  | [], _ :: _, h => h.elim
  | _ :: _, [], h => h.elim
  | m :: ms, (_, _) :: es, h => ⟨h.1.mono k.S k.cell, h.2.1.mono k, h.2.2.1, RelM.mono k ms es h.2.2.2⟩
theorem Zvz {kt : TypeId} {k : E} {v : Value} {u : TypeDesc} (hk : Znx P kt k = true) (hu : P.underlying kt = some u) (hv : RelE w G.S v k) :
    ∀ (ms : List MapEntry) (es : List (E × D)) (i : Nat) (r : Option D), RelM w G ms es → Zqz k es = some r →
      (r = none ∧ Instr.findNow u v ms i = some none) ∨ ∃ d j m, r = some d ∧ Instr.findNow u v ms i = some (some (i + j, m.val)) ∧ ms[j]? = some m ∧ RelD w G m.val d ∧ Zkx d = true
  | [], [], i, r, _, h => by simp [Zqz] at h; subst h; exact .inl ⟨rfl, rfl⟩
  | [], _ :: _, _, _, h, _ => h.elim
  | _ :: _, [], _, _, h, _ => h.elim
  | m :: ms, (k', d) :: es, i, r, hm, h => by
    obtain ⟨a, b, c, rest⟩ := hm
    simp only [Zqz] at h
    split at h
    · rename_i he
      simp at h; subst h
      refine .inr ⟨d, 0, m, rfl, ?_, rfl, b, c⟩
      simp only [Instr.findNow, (Zny hk hu hv a he).1, Nat.add_zero]
    · rename_i he
      rcases Zvz hk hu hv ms es (i + 1) r rest h with ⟨q1, q2⟩ | ⟨d', j, m', q1, q2, q3, q4, q5⟩
      · exact .inl ⟨q1, by simp only [Instr.findNow, (Zny hk hu hv a he).1, q2]⟩
      · refine .inr ⟨d', j + 1, m', q1, ?_, by simpa using q3, q4, q5⟩
        simp only [Instr.findNow, (Zny hk hu hv a he).1, q2]
        congr 3; omega
    · simp at h
theorem Ztn {v : Value} {d : D} (h : RelD w G v d) (hp : Zkx d = true) : ∀ b, tokT b v d = 0 := by
  intro b
  cases d <;> simp [Zkx] at hp <;> exact Zph rfl rfl h
theorem Zvj {d : D} (hp : Zkx d = true) : notTup d = true := by cases d <;> simp_all [Zkx, notTup]
theorem Zx4 (h : RelSt w G tm df pv pd s) {v : Value} {m : D} {es : List (E × D)} (hm : RelD w G v m) (he : Zyr s.h m = some es) :
    (v = .map none ∧ es = []) ∨ ∃ i b ents clock, m = .map i ∧ v = .map (some b) ∧ G.ob[i]? = some b ∧ s.h[i]? = some (.map es) ∧ w.heap[b]? = some (.map ents clock) ∧ RelM w G ents.toList es := by
  unfold Zyr at he
  split at he
  · simp at he; subst he
    have := Zg8 hm
    cases this; exact .inl ⟨rfl, rfl⟩
  · rename_i i
    split at he
    · rename_i es' hi
      simp at he; subst he
      cases hm with
      | map i b hb =>
        obtain ⟨ents, clock, q1, q2, q3⟩ := h.H i b _ hb hi
        exact .inr ⟨i, b, ents, clock, rfl, rfl, hb, hi, q1, relM_of _ _ (by simpa using q2) (fun i m k d h1 h2 => q3 i m k d (by simpa using h1) h2)⟩
    · simp at he
  · simp at he
theorem Zx3 {t kt et : TypeId} (h : mapT P t = some (kt, et)) : P.underlying t = some (.map kt et) := by
  unfold mapT at h; split at h
  · simp at h; obtain ⟨rfl, rfl⟩ := h; assumption
  · simp at h
theorem Zx9 {kt : TypeId} {k : E} (hk : Znx P kt k = true) : ∃ u, P.underlying kt = some u := by
  unfold Znx at hk; split at hk <;> first | (simp at hk; done) | exact ⟨_, by assumption⟩
theorem Zxv {v : Value} {d : D} (h : RelD w G v d) (hp : Zkx d = true) (b : Nat) : tokA b v d = 0 := by
  rw [← Zh0 (Zvj hp)]; exact Ztn h hp b
theorem Zmt {kt : TypeId} {u : TypeDesc} {v : Value} {l : List MapEntry} {r : Option (Nat × Value)} (hu : P.underlying kt = some u) (h : Instr.findNow u v l 0 = some r) (w : World) : (Instr.findKey kt v l).run P w = .ok r w := by
  simp [Instr.findKey, run_underlying hu, h]
theorem op_lookup (h : RelSt w G tm df pv pd s) {rest : List Oper} {o : Oper} {t : TypeId} {x y : Operand} {ok : Bool} (ho : o.op = .lookup t x y ok) {d : D} {s1 : St} (hx : exOp P rest o s = some (.val d, s1)) : Ziv P w G tm df pv pd s o d s1 := by
  simp only [exOp, ho] at hx
  split at hx
  · rename_i kt et m k h1 h2 h3
    split at hx
    · rename_i hk
      have hu := Zx3 h1
      obtain ⟨u, hku⟩ := Zx9 hk
      have rm := Zh1 h h2
      have rk := Zg8 (Zh1 h h3)
      have hget : ∃ es, Zyr s.h m = some es ∧ Zu2 s.h m k = Zqz k es := by
        unfold Zu2 at hx ⊢
        cases hm : Zyr s.h m with
        | none => rw [hm] at hx; simp at hx
        | some es => exact ⟨es, rfl, rfl⟩
      obtain ⟨es, he1, he2⟩ := hget
      rw [he2] at hx
      have hes : ∃ ents : Array MapEntry, RelM w G ents.toList es ∧ ∀ (v : Value) (r : Option (Nat × Value)), Instr.findNow u (ev tm y) ents.toList 0 = some r →
          ((∃ i, r = some (i, v)) → (execOp (ev tm) o).run P w = .ok (.value (if ok then .tuple #[v, .bool true] else v)) w) ∧
          (r = none → (zeroValue et).run P w = .ok v w → (execOp (ev tm) o).run P w = .ok (.value (if ok then .tuple #[v, .bool false] else v)) w) := by
        have hck : ∀ e : Bool, (Instr.checkKey e 10000 kt (ev tm y)).run P w = .ok () w := fun e => Zr6 hk 9999
        rcases Zx4 h rm he1 with ⟨e1, rfl⟩ | ⟨i, b, ents, clock, _, e1, hb, hi, q1, q2⟩
        · refine ⟨#[], trivial, fun v r hr => ?_⟩
          have hf := Zmt (P := P) hku hr w
          refine ⟨?_, ?_⟩
          · rintro ⟨j, rfl⟩
            simp at hf
            simp [execOp, ho, e1, Instr.lookup, run_underlying hu, hck, hf]
          · rintro rfl hz
            simp at hf
            simp [execOp, ho, e1, Instr.lookup, run_underlying hu, hck, hf, hz]
        · refine ⟨ents, q2, fun v r hr => ?_⟩
          have hf := Zmt (P := P) hku hr w
          refine ⟨?_, ?_⟩
          · rintro ⟨j, rfl⟩
            simp [execOp, ho, e1, Instr.lookup, run_underlying hu, hck, hf, getObj, Sem.run, q1]
          · rintro rfl hz
            simp [execOp, ho, e1, Instr.lookup, run_underlying hu, hck, hf, getObj, Sem.run, q1, hz]
      obtain ⟨ents, hm, hrun⟩ := hes
      split at hx
      · rename_i d0 hf
        simp only [Option.some.injEq, Prod.mk.injEq, Out.val.injEq] at hx
        obtain ⟨rfl, rfl⟩ := hx
        rcases Zvz hk hku rk _ _ 0 _ hm hf with ⟨q1, _⟩ | ⟨d', j, m', q1, q2, q3, q4, q5⟩
        · simp at q1
        · simp at q1; subst q1
          have := (hrun m'.val _ q2).1 ⟨_, rfl⟩
          cases ok with
          | true => exact Zen h this (Zpw q4) (Zpg (Zxv q4 q5))
          | false => exact Zen h this q4 (Ztn q4 q5)
      · rename_i hf
        obtain ⟨z, hz, hz2⟩ := Option.map_eq_some_iff.1 hx
        simp only [Prod.mk.injEq, Out.val.injEq] at hz2
        obtain ⟨rfl, rfl⟩ := hz2
        obtain ⟨zv, z1, z2⟩ := Zjh hz w
        obtain ⟨r1, r2⟩ := Zjp (w := w) (G := G) z2
        rcases Zvz hk hku rk _ _ 0 _ hm hf with ⟨_, q2⟩ | ⟨d', j, m', q1, _⟩
        · have := (hrun zv _ q2).2 rfl z1
          cases ok with
          | true => exact Zen h this (Zpw r1) (Zpg (Zul z2))
          | false => exact Zen h this r1 r2
        · simp at q1
      · simp at hx
    · simp at hx
  · simp at hx
theorem Zwo {k : E} {v : Value} {n : Nat} (hk : isKey k = true) (hv : RelE w G.S v k) : Instr.sameBits n v v = true := by
  cases hv <;> first | (simp [isKey] at hk; done) | (simp [Instr.sameBits]; done) | (simp only [Instr.sameBits]; exact ba_refl _)
theorem set_rel {kt : TypeId} {k : E} {v x : Value} {dx : D} {u : TypeDesc} (hk : Znx P kt k = true) (hu : P.underlying kt = some u) (hv : RelE w G.S v k) (hxv : RelD w G x dx) (hp : Zkx dx = true) (born : Nat) :
    ∀ (ms : List MapEntry) (es es' : List (E × D)) (i : Nat), RelM w G ms es → setD k dx es = some es' →
      (Instr.findNow u v ms i = some none ∧ RelM w G (ms ++ [{ key := v, val := x, born := born }]) es') ∨
      ∃ j m, Instr.findNow u v ms i = some (some (i + j, m.val)) ∧ ms[j]? = some m ∧ m.key = v ∧ RelM w G (ms.modify j fun e => { e with key := v, val := x }) es'
  | [], [], es', i, _, h => by
    simp [setD] at h; subst h
    exact .inl ⟨rfl, hv, hxv, hp, trivial⟩
  | [], _ :: _, _, _, h, _ => h.elim
  | _ :: _, [], _, _, h, _ => h.elim
  | m :: ms, (k', d) :: es, es', i, hm, h => by
    obtain ⟨a, b, c, rest⟩ := hm
    simp only [setD] at h
    split at h
    · rename_i he
      simp at h; subst h
      have hs := Zny hk hu hv a he
      refine .inr ⟨0, m, by simp only [Instr.findNow, hs.1, Nat.add_zero], rfl, (hs.2 rfl).symm, ?_⟩
      exact ⟨hv, hxv, hp, rest⟩
    · rename_i he
      obtain ⟨es2, h2, rfl⟩ := Option.map_eq_some_iff.1 h
      have hs := Zny hk hu hv a he
      rcases set_rel hk hu hv hxv hp born ms es es2 (i + 1) rest h2 with ⟨q1, q2⟩ | ⟨j, m', q1, q2, q3, q4⟩
      · exact .inl ⟨by simp only [Instr.findNow, hs.1, q1], a, b, c, q2⟩
      · refine .inr ⟨j + 1, m', ?_, by simpa using q2, q3, ?_⟩
        · simp only [Instr.findNow, hs.1, q1]; congr 3; omega
        · exact ⟨a, b, c, q4⟩
    · simp at h
theorem Zr7 (h : RelSt w G tm df pv pd s) {rest : List Oper} {o : Oper} {t : TypeId} {x y z : Operand} (ho : o.op = .mapUpdate t x y z ∨ o.op = .insert t x y z) {d : D} {s1 : St} (hx : exOp P rest o s = some (.val d, s1)) : Ziv P w G tm df pv pd s o d s1 := by
  have hx' : (match mapT P t, rd s x, rd s y, sh s z with
    | some (kt, _), some (.map i), some (.e k), some (v, s1) =>
      if Znx P kt k && Zkx v then
        match s1.h[i]? with
        | some (.map es) => (setD k v es).map fun es' => (Out.val Zaw, { s1 with h := s1.h.set i (.map es') })
        | _ => none
      else none
    | _, _, _, _ => none) = some (Out.val d, s1) := by
    rcases ho with ho | ho <;> (simp only [exOp, ho] at hx; exact hx)
  split at hx'
  · rename_i kt et i k v s2 h1 h2 h3 h4
    split at hx'
    · rename_i hkp
      obtain ⟨hk, hp⟩ : Znx P kt k = true ∧ Zkx v = true := by simpa using hkp
      split at hx'
      · rename_i es hi
        obtain ⟨es', hse, he⟩ := Option.map_eq_some_iff.1 hx'
        simp only [Prod.mk.injEq, Out.val.injEq] at he
        obtain ⟨rfl, rfl⟩ := he
        obtain ⟨G1, m1, m2, m3, m4, m5, m6⟩ := Zon h h4
        have hu := Zx3 h1
        obtain ⟨u, hku⟩ := Zx9 hk
        have rm : RelD w G1 (ev tm x) (.map i) := (Zh1 h h2).mono m3.later
        have rk := Zg8 ((Zh1 h h3).mono m3.later)
        have rz := m1.P.head.1
        rcases Zx4 m1.drop rm (es := es) (by simp only [Zyr, hi]) with ⟨e1, _⟩ | ⟨i', b, ents, clock, e0, e1, hb, hi', q1, q2⟩
        · generalize ev tm x = vx at rm e1
          subst e1; cases rm
        · cases e0
          have hck : (Instr.checkKey false 10000 kt (ev tm y)).run P w = .ok () w := Zr6 hk 9999
          have hlt : b < w.heap.size := Zik q1
          have key : ∃ ents' clock', (execOp (ev tm) o).run P w = .ok .skip (setB w b (.map ents' clock')) ∧ RelM w G1 ents'.toList es' := by
            have hkk : isKey k = true := by
              unfold Znx at hk; split at hk <;> first | rfl | (simp at hk; done)
            have hex : (execOp (ev tm) o) = (do Instr.mapUpdate t (ev tm x) (ev tm y) (ev tm z); pure .skip) := by rcases ho with ho | ho <;> simp [execOp, ho]
            rcases set_rel hk hku rk rz hp clock _ _ _ 0 q2 hse with ⟨f1, f2⟩ | ⟨j, m, f1, f2, f3, f4⟩
            · refine ⟨ents.push { key := ev tm y, val := ev tm z, born := clock }, clock + 1, ?_, by simpa using f2⟩
              rw [hex]
              have hf := Zmt (P := P) hku f1 w
              simp [e1, Instr.mapUpdate, run_underlying hu, getObj, setObj, Sem.run, q1, hck, hf, setB]
            · refine ⟨ents.modify j fun e => { e with key := ev tm y, val := ev tm z }, clock, ?_, by simpa using f4⟩
              rw [hex]
              have hf := Zmt (P := P) hku f1 w
              have hje : ents[j]? = some m := by simpa using f2
              have hsb : Instr.sameBits 10000 (ev tm y) (ev tm y) = true := Zwo hkk rk
              simp [e1, Instr.mapUpdate, run_underlying hu, getObj, setObj, Sem.run, q1, hck, hf, setB, hje, f3, Instr.keyThatStays, hsb]
          obtain ⟨ents', clock', hrun, hrel⟩ := key
          obtain ⟨n1, n2⟩ := m1.drop.setObj (o' := .map es') (x := .map ents' clock') hi hb rfl rfl (by simp) (fun later => by
            obtain ⟨p1, p2⟩ := relM_to _ _ (hrel.mono later)
            exact ⟨ents', clock', Zsa hlt, by simpa using p1, fun i m k d a b => p2 i m k d (by simpa using a) b⟩)
          refine ⟨_, G1, .skip, undef, hrun, .inr ⟨rfl, rfl⟩, n1.dup (Zi6 _ _) Zep, ?_, m5, m6⟩
          refine ((m3.weaken (fun _ => Yab _) (fun b hb => Nat.le_trans (Zh3 b) (m3.cnt b hb))).trans n2).weaken (fun _ => Yab _) (fun b hb => ?_)
          have a1 := n2.cnt b (by exact hb); have a2 := m3.cnt b hb; have a3 := Zep b
          have a4 := Zh3 (w := w) (G := G1) (tm := tm) (pv := pv) (pd := pd) (s := s2) (v := ev tm z) (d := v) b
          simp only [cntS, sumZ] at *; omega
      · simp at hx'
    · simp at hx'
  · simp at hx'
end
end Go.Abs
