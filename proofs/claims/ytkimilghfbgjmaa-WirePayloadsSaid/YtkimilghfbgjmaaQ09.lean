/-
  A SLICE THAT ONE OWNS BECOMES AN OBJECT, and an object's cells are sealed: what is said of memory changes, memory does not. WHERE THE MACHINE STANDS behind a piece of code, and how pieces follow one another. THE OPERATIONS, ONE BY ONE: least and greatest, panics, deferred calls, and all of them together. No condition.
-/
import Derived.Test.YtkimilghfbgjmaaQ04
import Derived.Test.YtkimilghfbgjmaaQ08

open List renaming getElem?_append_left → Ya7
open Nat renaming le_refl → Yab
namespace Go.Abs
section
variable {P : Program} {w : World} {G : Gh} {tm : List Value} {df : List Deferred} {pv : List Value} {pd : List D} {s : St}
theorem flat_get {es : List (List E)} {sz : Nat} (h0 : 0 < sz) (h : ∀ r ∈ es, r.length = sz) : ∀ (k : Nat) (x : E), es.flatten[k]? = some x → ∃ i r j, es[i]? = some r ∧ r[j]? = some x ∧ k = i * sz + j ∧ j < sz := by
  induction es with
  | nil => intro k x hx; simp at hx
  | cons r es ih =>
    intro k x hx
    have hr : r.length = sz := h r (by simp)
    simp only [List.flatten_cons] at hx
    by_cases hk : k < sz
    · rw [Ya7 (by omega)] at hx
      exact ⟨0, r, k, rfl, hx, by simp, hk⟩
    · rw [List.getElem?_append_right (by omega)] at hx
      obtain ⟨i, r', j, h1, h2, h3, h4⟩ := ih (fun r hr => h r (by simp [hr])) (k - r.length) x hx
      refine ⟨i + 1, r', j, h1, h2, ?_, h4⟩
      rw [Nat.add_mul]; omega
theorem flat_len {es : List (List E)} {sz : Nat} (h : ∀ r ∈ es, r.length = sz) : es.flatten.length = es.length * sz := by
  induction es with
  | nil => simp
  | cons r es ih =>
    simp only [List.flatten_cons, List.length_append, List.length_cons, ih (fun r hr => h r (by simp [hr])), h r (by simp), Nat.add_mul]; omega
theorem hdr_of {v : Value} {ex fu : Bool} {sz : Nat} {es : List (List E)} (h : RelD w G v (.osl ex fu sz es)) : RelD w G v (.hdr es.length) := by
  cases h with
  | oslN => exact .hdr _ _ _
  | osl b o n cap _ _ _ _ hn => subst hn; exact .hdr _ _ _
theorem RelSt.opn {v : Value} {fu : Bool} {sz : Nat} {es : List (List E)} (h : RelSt w G tm df (v :: pv) (.osl true fu sz es :: pd) s) (hne : es ≠ []) :
    ∃ b cap, v = .slice (some ⟨b, 0, none⟩) es.length cap ∧ es.length ≤ cap ∧ RelSt w { ob := G.ob ++ [b], S := G.S } tm df pv pd { s with h := s.h ++ [.cells (es.flatten.map .e)] } ∧
      Ext w G (cntS w G tm (v :: pv) (.osl true fu sz es :: pd) s) w { ob := G.ob ++ [b], S := G.S } (cntS w { ob := G.ob ++ [b], S := G.S } tm pv pd { s with h := s.h ++ [.cells (es.flatten.map .e)] }) := by
  obtain ⟨hr, hl⟩ := h.P.head
  rw [Zdu rfl, Zfk rfl] at hl
  have hb : ∃ b o cap, v = .slice (some ⟨b, o, none⟩) es.length cap ∧ es.length ≤ cap ∧ 0 < sz ∧ ∀ r ∈ es, r.length = sz := by
    cases hr with
    | oslN => exact absurd rfl hne
    | osl b o n cap _ _ _ _ hn hc hfu h0 hsz hs =>
      subst hn
      refine ⟨b, o, cap, rfl, hc, ?_, hsz⟩
      rcases h0 with h0 | ⟨h0, _⟩
      · exact h0
      · exact absurd h0 hne
  obtain ⟨b, o, cap, rfl, hcap, h0, hsz⟩ := hb
  obtain ⟨⟨_, ho⟩, arr, elem, fz, k1, k2, k3, k4, k5⟩ := hl (.inl ⟨rfl, hne⟩)
  simp only at ho k1 k2 k3 k4 k5
  subst ho
  obtain ⟨k5, k6⟩ := k5 trivial
  have htok : tokT b (.slice (some ⟨b, 0, none⟩) es.length cap) (.osl true fu sz es) = 1 := by
    rw [Zda rfl]; unfold tok; simp [hne]
  have hone := h.one b
  have hlt := Zik k1
  have hno : b ∉ G.ob := fun hb => by have := h.noob b hb; simp only [sumZ, htok] at this; omega
  have h2 := h.less (d' := .hdr es.length) (.hdr _ _ _) (fun b => by rw [Zda rfl]; rfl)
  have hz : ∀ b', tokT b' (.slice (some ⟨b, 0, none⟩) es.length cap) (.hdr es.length) = 0 := fun b' => by rw [Zda rfl]; rfl
  have hc0 : cntS w G tm (.slice (some ⟨b, 0, none⟩) es.length cap :: pv) (.hdr es.length :: pd) s b = 0 := by
    simp only [cntS, sumZ, htok, hz] at hone ⊢; omega
  have hfl := flat_len hsz
  have hcs : es.length * sz ≤ cap * sz := Nat.mul_le_mul_right _ hcap
  have later : Later w G w { ob := G.ob ++ [b], S := G.S } := ⟨fun i b' hi => by
    have := (List.getElem?_eq_some_iff.1 hi).1
    simp only; rw [Ya7 this]; exact hi, fun _ _ h => h, fun _ _ _ => rfl⟩
  have hpt : ∀ (k : Nat) u e, arr[k]? = some u → (es.flatten.map D.e)[k]? = some e → RelD w { ob := G.ob ++ [b], S := G.S } u e ∧ own0 e = false := by
    intro k u e hu he
    simp only [List.getElem?_map, Option.map_eq_some_iff] at he
    obtain ⟨x, hx, rfl⟩ := he
    obtain ⟨i, r, j, q1, q2, q3, q4⟩ := flat_get h0 hsz k x hx
    obtain ⟨u', q5, q6⟩ := k6 i r j x q1 q2
    rw [Nat.zero_add, ← q3, hu] at q5; cases q5
    exact ⟨.e _ _ q6, rfl⟩
  have hro : RelO w { ob := G.ob ++ [b], S := G.S } b (.cells (es.flatten.map .e)) := by
    refine ⟨arr, elem, fz, k1, k3, by rw [List.length_map, hfl]; omega, fun i u hi hu => ?_, fun k u e hu he => ⟨(hpt k u e hu he).1, Zm4 (fun b' => Zj4 (hpt k u e hu he).1 (hpt k u e hu he).2)⟩⟩
    have hlt2 : i < (es.flatten.map D.e).length := hi
    have := (hpt i u _ hu (List.getElem?_eq_getElem hlt2)).1
    simp only [List.getElem_map] at this
    cases this with
    | e _ _ hx => exact hx.one
  have hz2 : ∀ b', Zg5 w b' b (.cells (es.flatten.map .e)) = 0 := by
    intro b'
    simp only [Zg5, k1]
    exact Zhd _ _ _ (fun k u e hu he => Zj4 (hpt k u e (by simpa using hu) he).1 (hpt k u e (by simpa using hu) he).2)
  obtain ⟨m1, m2, m3⟩ := h2.addObj (o := .cells (es.flatten.map .e)) hlt hno (fun j hs => k5 j (Nat.zero_le j) hs) hc0 hro (fun b' => by rw [hz2]; omega) (fun b' hb' e => by subst e; rw [k1] at hb'; cases hb')
  refine ⟨b, cap, rfl, hcap, m1, later, Yab _, fun b' hb' => ?_, fun _ _ _ _ _ hs => hs, fun _ _ _ _ => rfl, fun b' _ => ?_, rfl, rfl⟩
  · simp only [List.mem_append, List.mem_singleton] at hb'
    rcases hb' with hb' | rfl
    · exact .inl hb'
    · exact .inr (.inr (by simp only [cntS, sumZ, htok]; omega))
  · have := m2 b'; have := hz b'
    simp only [cntS, sumZ] at *; omega
theorem Zuu {k : Nat} : ∀ (n : Nat) (xs : List E) (i : Nat) (r : List E), n * k ≤ xs.length → (rows k n xs)[i]? = some r → i < n ∧ r.length = k ∧ ∀ j x, r[j]? = some x → xs[i * k + j]? = some x
  | 0, xs, i, r, _, h => by simp [rows] at h
  | n + 1, xs, 0, r, hl, h => by
    simp [rows] at h; subst h
    rw [Nat.add_mul] at hl
    refine ⟨by omega, by simp; omega, fun j x hj => ?_⟩
    rw [List.getElem?_take] at hj
    split at hj
    · simpa using hj
    · simp at hj
  | n + 1, xs, i + 1, r, hl, h => by
    rw [Nat.add_mul] at hl
    simp only [rows, List.getElem?_cons_succ] at h
    obtain ⟨h1, h2, h3⟩ := Zuu n (xs.drop k) i r (by simp; omega) h
    refine ⟨by omega, h2, fun j x hj => ?_⟩
    have := h3 j x hj
    rw [List.getElem?_drop] at this
    rw [Nat.add_mul, Nat.one_mul]
    rw [show i * k + k + j = k + (i * k + j) by omega]; exact this
theorem Zut (k : Nat) : ∀ (n : Nat) (xs : List E), (rows k n xs).length = n
  | 0, _ => rfl
  | n + 1, xs => by simp [rows, Zut k n]
theorem Zsn : ∀ {ds : List D} {xs : List E}, Zia ds = some xs → ds = xs.map .e
  | [], xs, h => by simp [Zia] at h; subst h; rfl
  | .e x :: ds, xs, h => by
    simp only [Zia, Option.map_eq_some_iff] at h
    obtain ⟨ys, h1, rfl⟩ := h
    rw [Zsn h1]; rfl
  | .osl _ _ _ _ :: ds, xs, h => by simp [Zia] at h
  | .hdr _ :: ds, xs, h => by simp [Zia] at h
  | .ptr _ _ :: ds, xs, h => by simp [Zia] at h
  | .rptr _ _ :: ds, xs, h => by simp [Zia] at h
  | .asl _ _ _ :: ds, xs, h => by simp [Zia] at h
  | .map _ :: ds, xs, h => by simp [Zia] at h
  | .func _ _ _ :: ds, xs, h => by simp [Zia] at h
  | .iface _ _ :: ds, xs, h => by simp [Zia] at h
  | .agg _ :: ds, xs, h => by simp [Zia] at h
  | .tup _ :: ds, xs, h => by simp [Zia] at h
theorem RelSt.shut (h : RelSt w G tm df pv pd s) {i b : Nat} {cs : List D} {xs : List E} (hi : s.h[i]? = some (.cells cs)) (hb : G.ob[i]? = some b) (hp : cs = xs.map .e) :
    ∃ G', RelSt w G' tm df pv pd { s with h := s.h.set i .dead } ∧ Ext w G (cntS w G tm pv pd s) w G' (cntS w G' tm pv pd { s with h := s.h.set i .dead }) ∧ G'.ob = G.ob ∧ RowE w G'.S b 0 xs := by
  obtain ⟨b0, arr, elem, fz, q1, q2, q3, q4, q5, q6⟩ := h.cells hi
  rw [hb] at q1; cases q1
  let G' : Gh := { ob := G.ob, S := fun b' j => G.S b' j ∨ (b' = b ∧ j < cs.length) }
  have later : Later w G w G' := ⟨fun _ _ h => h, fun _ _ h => .inl h, fun _ _ _ => rfl⟩
  have hob : b ∈ G.ob := List.mem_of_getElem? hb
  have hno := h.noob b hob
  have hne : ∀ b', 0 < cntS w G tm pv pd s b' → b' ≠ b := fun b' hb' e => by subst e; simp only [cntS] at hb'; omega
  have keep : ∀ b', 0 < cntS w G tm pv pd s b' → ∀ j, G'.S b' j → G.S b' j := by
    rintro b' hb' j (hs | ⟨e, _⟩)
    · exact hs
    · exact absurd e (hne b' hb')
  have hz : ∀ b', Zg5 w b' b (.cells cs) = 0 := by
    intro b'
    simp only [Zg5, q2]
    refine Zhd _ _ _ (fun k u e hu he => Zj4 (q6 k u e (by simpa using hu) he).1 ?_)
    rw [hp, List.getElem?_map, Option.map_eq_some_iff] at he
    obtain ⟨x, _, rfl⟩ := he; rfl
  have hh : ∀ b', hsum w b' G.ob (s.h.set i .dead) = hsum w b' G.ob s.h := by
    intro b'
    have e1 := Zqe (w := w) b' G.ob s.h i b .dead _ hb hi
    rw [hz] at e1
    simpa [Zg5] using e1
  refine ⟨G', { L := ?_, P := ?_, len := by simp [h.len, G'], nd := h.nd, obS := ?_, H := ?_, S := ?_, one := ?_, noob := ?_, dfr := ?_ }, ⟨later, Yab _, fun b' hb' => .inl hb', ?_, fun _ _ _ _ => rfl, fun b' _ => ?_, rfl, rfl⟩, rfl, ?_⟩
  · exact h.L.keep later (fun b' ht => ⟨rfl, keep b' (by simp only [cntS]; omega)⟩)
  · exact h.P.keep later (fun b' ht => ⟨rfl, keep b' (by simp only [cntS]; omega)⟩)
  · intro j b' hb'
    refine ⟨(h.obS j b' hb').1, fun hd k hs => ?_⟩
    by_cases hij : i = j
    · subst hij
      exact hd (by simp only; rw [List.getElem?_set_self (List.getElem?_eq_some_iff.1 hi).1])
    · simp only at hd
      rw [List.getElem?_set_ne hij] at hd
      rcases hs with hs | ⟨e, _⟩
      · exact (h.obS j b' hb').2 hd k hs
      · subst e; exact hij (Znt h.nd hb hb')
  · intro j b' o h1 h2
    simp only at h2
    by_cases hij : i = j
    · subst hij
      rw [List.getElem?_set_self (List.getElem?_eq_some_iff.1 hi).1] at h2
      cases h2; trivial
    · rw [List.getElem?_set_ne hij] at h2
      exact (h.H j b' o h1 h2).keep later rfl (fun b2 ht => ⟨rfl, keep b2 (by
        have := Zsv (w := w) (i := j) b2 G.ob s.h j h1 h2
        simp only [cntS]; omega)⟩)
  · rintro b' j (hs | ⟨rfl, hj⟩)
    · exact h.S b' j hs
    · exact ⟨arr[j]'(by omega), by simp only [World.cell?, q2]; simp⟩
  · intro b'; simp only [hh, G']; exact h.one b'
  · intro b' hb'; simp only [hh, G']; exact h.noob b' hb'
  · exact h.dfr.keep later (fun b' _ h2 => ⟨rfl, h2⟩)
  · rintro b' _ _ hno' j (hs | ⟨rfl, _⟩)
    · exact hs
    · exact absurd hob hno'
  · simp only [cntS, hh, G']; exact Yab _
  · intro j x hj
    have hjl : j < cs.length := by rw [hp]; simp; exact (List.getElem?_eq_some_iff.1 hj).1
    have hu : arr[j]? = some (arr[j]'(by omega)) := Array.getElem?_eq_getElem (by omega)
    have hc : cs[j]? = some (.e x) := by rw [hp, List.getElem?_map, hj]; rfl
    refine ⟨.inr ⟨rfl, by omega⟩, arr[j]'(by omega), by simp only [World.cell?, q2, Nat.zero_add]; simp, ?_⟩
    exact (Zg8 (q6 j _ _ hu hc).1).mono later.S later.cell
theorem Zwk (h : RelSt w G tm df pv pd s) {i n : Nat} {d : D} (hs : Zwl s.h i n = some d) : ∃ G', RelSt w G' tm df pv pd { s with h := s.h.set i .dead } ∧
    Ext w G (cntS w G tm pv pd s) w G' (cntS w G' tm pv pd { s with h := s.h.set i .dead }) ∧ G'.ob = G.ob ∧ ∀ v, RelD w G v (.asl i 0 n) → RelD w G' v d ∧ (∀ b, tokT b v d = 0) ∧ flat d = true ∧ own0 d = false := by
  unfold Zwl at hs
  split at hs
  · rename_i cs hg
    split at hs
    · rename_i xs hx
      split at hs
      · rename_i hc
        simp only [Option.some.injEq] at hs
        subst hs
        obtain ⟨hc1, hc2, hc3⟩ := hc
        have hi := Zio hg
        obtain ⟨b1, _, _, _, q1, _⟩ := h.cells hi
        obtain ⟨G', m1, m2, m3, m4⟩ := h.shut hi q1 (Zsn hx)
        refine ⟨G', m1, m2, m3, fun v hv => ?_⟩
        have p1 : RelD w G' v (.e (.sl (rows (xs.length / n) n xs))) := by
          cases hv with
          | asl _ _ _ cap b hb hcap =>
            rw [q1] at hb; cases hb
            have := RelE.of_rows (w := w) (S := G'.S) (b := b1) (o := 0) (cap := cap) (sz := xs.length / n) (es := rows (xs.length / n) n xs) (by rw [Zut]; exact hcap) hc3 (fun r hr => by
              obtain ⟨k, hk⟩ := List.getElem?_of_mem hr
              exact (Zuu n xs k r (by omega) hk).2.1) (fun k r hk j x hj => by
              have := (Zuu n xs k r (by omega) hk).2.2 j x hj
              have := m4 _ _ this
              simpa [Nat.add_assoc] using this)
            rw [Zut] at this
            exact .e _ _ this
        exact ⟨p1, fun b' => Zhc p1 rfl, rfl, rfl⟩
      · simp at hs
    · simp at hs
  · simp at hs
theorem cv1_rel (h : RelSt w G tm df [] [] s) (c : Cv) : ∃ G', RelSt w G' tm df [] [] (cv1 s c) ∧ Ext w G (cntS w G tm [] [] s) w G' (cntS w G' tm [] [] (cv1 s c)) ∧ (cv1 s c).r = s.r ∧ (cv1 s c).d = s.d := by
  have same : ∃ G', RelSt w G' tm df [] [] s ∧ Ext w G (cntS w G tm [] [] s) w G' (cntS w G' tm [] [] s) ∧ s.r = s.r ∧ s.d = s.d := ⟨G, h, .refl _ _ _, rfl, rfl⟩
  cases c with
  | opn t =>
    simp only [cv1]
    split
    · rename_i d o ho
      unfold Ztg at ho
      split at ho
      · rename_i fu sz x es hd
        simp only [Option.some.injEq, Prod.mk.injEq] at ho
        obtain ⟨rfl, rfl⟩ := ho
        obtain ⟨k1, k2⟩ := h.slot t
        rw [hd] at k1 k2
        have z1 : RelD w G (tm.getD t undef) (.hdr (es.length + 1)) := hdr_of k1
        have z2 : ∀ b, tokT b (tm.getD t undef) (.hdr (es.length + 1)) = 0 := fun b => Zhc z1 rfl
        have m1 := h.take z1 z2
        have m2 := fun b => Nat.le_of_eq (Zof h t z2 b)
        rw [hd] at m1 m2
        obtain ⟨b, cap, e1, ec, n1, n2⟩ := m1.opn (by simp)
        have p1 : RelD w { ob := G.ob ++ [b], S := G.S } (tm.getD t undef) (.asl s.h.length 0 (es.length + 1)) := by
          rw [e1]; exact .asl _ _ _ _ _ (by simp only; rw [← h.len]; simp) (by simpa using ec)
        have p2 : ∀ b', tokT b' (tm.getD t undef) (.asl s.h.length 0 (es.length + 1)) = 0 := fun b' => Zhc p1 rfl
        have p3 := n1.take p1 p2
        have p4 := fun b' => Nat.le_of_eq (Zof n1 t p2 b')
        refine ⟨_, by simpa [List.set_set] using p3.drop, ?_, by simp, by simp⟩
        refine n2.weaken m2 (fun b' hb' => ?_)
        have a1 := n2.cnt b' hb'; have a2 := p4 b'; have a3 := m2 b'
        have a4 := Zh3 (w := w) (G := { ob := G.ob ++ [b], S := G.S }) (tm := tm) (pv := []) (pd := []) (s := { s with t := (s.t.set t (.hdr (es.length + 1))).set t (.asl s.h.length 0 (es.length + 1)), h := s.h ++ [.cells ((x :: es).flatten.map .e)] }) (v := tm.getD t undef) (d := (s.t.set t (.hdr (es.length + 1))).getD t Zaw) b'
        simp only [List.set_set] at a2 a4
        simp only [List.length_cons] at *
        omega
      · simp at ho
    · exact same
  | opnC t =>
    simp only [cv1]
    split
    · rename_i i off hd
      split
      · rename_i cs hg
        split
        · rename_i d0 hd0
          split
          · rename_i d o ho
            unfold Ztg at ho
            split at ho
            · rename_i fu sz x es
              simp only [Option.some.injEq, Prod.mk.injEq] at ho
              obtain ⟨rfl, rfl⟩ := ho
              have hi := Zio hg
              have hlt : off < cs.length := (List.getElem?_eq_some_iff.1 hd0).1
              obtain ⟨b1, arr, elem, fz, q1, q2, q3, q4, q5, q6⟩ := h.cells hi
              have hu : arr[off]? = some (arr[off]'(by omega)) := Array.getElem?_eq_getElem (by omega)
              generalize arr[off]'(by omega) = u at hu
              obtain ⟨k1, k2⟩ := q6 off u _ hu hd0
              have z1 : RelD w G u (.hdr (es.length + 1)) := hdr_of k1
              have hcell : ∀ (d : D), u.cells = #[u] := by
                intro _
                have one := q5 off u hlt hu
                cases u <;> simp_all [Value.oneCell', Value.cells]
              have tk := h.takeCells (off := off) (ds := [.hdr (es.length + 1)]) (n := 1) (v := u) (d := .osl true fu sz (x :: es)) hi q1 q2 (by omega) rfl (by
                  rw [hcell Zaw]
                  apply List.ext_getElem?; intro k
                  rw [List.getElem?_take]
                  cases k with
                  | zero => simpa using hu.symm
                  | succ k => simp) (by
                  simp only [cellsOf]
                  rw [List.drop_eq_getElem_cons hlt, List.take_succ_cons, List.take_zero, (List.getElem?_eq_some_iff.1 hd0).2]) k1 (by rw [Zdu rfl, Zfk rfl]; exact k2) rfl (by
                  intro k u' e e' hu' he he' hr'
                  cases k with
                  | zero =>
                    simp at he'
                    subst he'
                    rw [Nat.add_zero, hu] at hu'; cases hu'
                    exact ⟨z1, fun b => Zj4 z1 rfl⟩
                  | succ k => simp at he')
              obtain ⟨m1, m2⟩ := tk
              obtain ⟨b, cap, e1, ec, n1, n2⟩ := m1.opn (by simp)
              have hi2 : ({ s with h := s.h.set i (.cells (Zfg cs off [.hdr (es.length + 1)])) ++ [.cells ((x :: es).flatten.map .e)] } : St).h[i]? = some (.cells (Zfg cs off [.hdr (es.length + 1)])) := by
                simp only
                rw [Ya7 (by simp; exact (List.getElem?_eq_some_iff.1 hi).1), List.getElem?_set_self (List.getElem?_eq_some_iff.1 hi).1]
              have q1' : ({ ob := G.ob ++ [b], S := G.S } : Gh).ob[i]? = some b1 := by
                simp only; rw [Ya7 (List.getElem?_eq_some_iff.1 q1).1]; exact q1
              have hlen2 : (Zfg cs off [.hdr (es.length + 1)]).length = cs.length := by rw [Zg2, Zgl _ _ _ (by simp; omega)]
              have tk2 := n1.takeCells (off := off) (ds := [.asl s.h.length 0 (es.length + 1)]) (n := 1) (v := u) (d := .hdr (es.length + 1)) hi2 q1' q2 (by omega) rfl (by
                  rw [hcell Zaw]
                  apply List.ext_getElem?; intro k
                  rw [List.getElem?_take]
                  cases k with
                  | zero => simpa using hu.symm
                  | succ k => simp) (by
                  simp only [cellsOf]
                  have hg1 : (Zfg cs off [.hdr (es.length + 1)])[off]? = some (.hdr (es.length + 1)) := by
                    rw [Zg2, Zfd _ _ _ (by simp; omega)]; simp
                  have hlt3 := (List.getElem?_eq_some_iff.1 hg1).1
                  rw [List.drop_eq_getElem_cons hlt3, List.take_succ_cons, List.take_zero, (List.getElem?_eq_some_iff.1 hg1).2]) (z1.mono n2.later) (by rw [Zdu rfl, Zfk rfl]; unfold Leaf0; split <;> simp_all) rfl (by
                  intro k u' e e' hu' he he' hr'
                  cases k with
                  | zero =>
                    simp at he'
                    subst he'
                    rw [Nat.add_zero, hu] at hu'; cases hu'
                    have pa : RelD w { ob := G.ob ++ [b], S := G.S } u (.asl s.h.length 0 (es.length + 1)) := by rw [e1]; exact .asl _ _ _ _ _ (by simp only; rw [← h.len]; simp) (by simpa using ec)
                    exact ⟨pa, fun b' => Zj4 pa rfl⟩
                  | succ k => simp at he')
              obtain ⟨t1, t2⟩ := tk2
              have eqh : s.h.set i (O.cells (Zfg cs off [.asl s.h.length 0 (es.length + 1)])) ++ [O.cells ((x :: es).flatten.map .e)] =
                  (s.h.set i (O.cells (Zfg cs off [.hdr (es.length + 1)])) ++ [O.cells ((x :: es).flatten.map .e)]).set i (O.cells (Zfg (Zfg cs off [.hdr (es.length + 1)]) off [.asl s.h.length 0 (es.length + 1)])) := by
                have e1 : Zfg (Zfg cs off [.hdr (es.length + 1)]) off [.asl s.h.length 0 (es.length + 1)] = Zfg cs off [.asl s.h.length 0 (es.length + 1)] := by
                  simp only [Zg2]
                  rw [Zpq _ _ _ _ (by simp; omega) (by simp)]
                rw [e1, List.set_append_left _ _ (by simp; exact (List.getElem?_eq_some_iff.1 hi).1), List.set_set]
              refine ⟨{ ob := G.ob ++ [b], S := G.S }, ?_, ?_, rfl, rfl⟩
              · try simp only [List.length_cons]
                rw [eqh]; exact t1.drop
              · try simp only [List.length_cons]
                rw [eqh]
                refine n2.weaken m2 (fun b' hb' => ?_)
                have a1 := n2.cnt b' hb'; have a2 := t2 b'; have a3 := m2 b'
                have a4 := Zh3 (w := w) (G := { ob := G.ob ++ [b], S := G.S }) (tm := tm) (pv := []) (pd := []) (s := { s with h := (s.h.set i (O.cells (Zfg cs off [.hdr (es.length + 1)])) ++ [O.cells ((x :: es).flatten.map .e)]).set i (O.cells (Zfg (Zfg cs off [.hdr (es.length + 1)]) off [.asl s.h.length 0 (es.length + 1)])) }) (v := u) (d := .hdr (es.length + 1)) b'
                dsimp only at *
                omega
            · simp at ho
          · exact same
        · exact same
      · exact same
    · exact same
  | shut t =>
    simp only [cv1]
    split
    · rename_i i n hd
      split
      · rename_i d' ho
        obtain ⟨G', m1, m2, m3, m4⟩ := Zwk h ho
        have k1 := (h.slot t).1
        rw [hd] at k1
        obtain ⟨p1, p2, _, _⟩ := m4 _ k1
        have p3 := m1.take p1 p2
        have p4 := fun b' => Nat.le_of_eq (Zof m1 t p2 b')
        refine ⟨G', p3.drop, m2.weaken (fun _ => Yab _) (fun b' hb' => ?_), rfl, rfl⟩
        have a1 := m2.cnt b' hb'; have a2 := p4 b'
        have a4 := Zh3 (w := w) (G := G') (tm := tm) (pv := []) (pd := []) (s := { s with t := s.t.set t d', h := s.h.set i .dead }) (v := tm.getD t undef) (d := s.t.getD t Zaw) b'
        dsimp only at *; omega
      · exact same
    · exact same
  | shutC t =>
    simp only [cv1]
    split
    · rename_i k off hd
      split
      · rename_i cs hg
        split
        · rename_i i n hd0
          split
          · exact same
          · rename_i hik
            split
            · rename_i d' ho
              have hi := Zio hg
              have hlt : off < cs.length := (List.getElem?_eq_some_iff.1 hd0).1
              obtain ⟨b1, arr, elem, fz, q1, q2, q3, q4, q5, q6⟩ := h.cells hi
              have hu : arr[off]? = some (arr[off]'(by omega)) := Array.getElem?_eq_getElem (by omega)
              generalize arr[off]'(by omega) = u at hu
              obtain ⟨k1, k2⟩ := q6 off u _ hu hd0
              obtain ⟨G', m1, m2, m3, m4⟩ := Zwk h ho
              obtain ⟨p1, p2, pf, po⟩ := m4 u k1
              have hcell : u.cells = #[u] := by
                have one := q5 off u hlt hu
                cases u <;> simp_all [Value.oneCell', Value.cells]
              have hi2 : ({ s with h := s.h.set i .dead } : St).h[k]? = some (.cells cs) := by
                simp only; rw [List.getElem?_set_ne hik]; exact hi
              have tk2 := m1.takeCells (off := off) (ds := [d']) (n := 1) (v := u) (d := .asl i 0 n) hi2 (by rw [m3]; exact q1) q2 (by omega) rfl (by
                  rw [hcell]
                  apply List.ext_getElem?; intro k
                  rw [List.getElem?_take]
                  cases k with
                  | zero => simpa using hu.symm
                  | succ k => simp) (by
                  simp only [cellsOf]
                  rw [List.drop_eq_getElem_cons hlt, List.take_succ_cons, List.take_zero, (List.getElem?_eq_some_iff.1 hd0).2]) (k1.mono m2.later) (by rw [Zdu rfl, Zfk rfl]; unfold Leaf0; split <;> simp_all) rfl (by
                  intro k u' e e' hu' he he' hr'
                  cases k with
                  | zero =>
                    simp at he'
                    subst he'
                    rw [Nat.add_zero, hu] at hu'; cases hu'
                    exact ⟨p1, fun b => Zj4 p1 po⟩
                  | succ k => simp at he')
              obtain ⟨t1, t2⟩ := tk2
              refine ⟨G', t1.drop, m2.weaken (fun _ => Yab _) (fun b' hb' => ?_), rfl, rfl⟩
              have a1 := m2.cnt b' hb'; have a2 := t2 b'
              have a4 := Zh3 (w := w) (G := G') (tm := tm) (pv := []) (pd := []) (s := { s with h := (s.h.set i .dead).set k (.cells (Zfg cs off [d'])) }) (v := u) (d := .asl i 0 n) b'
              dsimp only at *; omega
            · exact same
        · exact same
      · exact same
    · exact same
  | kp t =>
    simp only [cv1]
    split
    · rename_i hc
      simp only [Bool.and_eq_true] at hc
      have hsh : sh s (.tmp t) = some (shr (s.t.getD t Zaw), { s with t := s.t.set t (kep (s.t.getD t Zaw)) }) := by
        obtain ⟨ho, hn⟩ := hc
        simp only [sh, ho, if_true]
        cases hd : s.t.getD t Zaw <;> simp_all [notTup]
      obtain ⟨G2, m1, m2, m3, _⟩ := Zon h hsh
      exact ⟨G2, m1.drop, m3.weaken (fun b => Yab _) (fun b hb => Nat.le_trans (Zh3 b) (m3.cnt b hb)), rfl, rfl⟩
    · exact same
theorem Zsf : ∀ (l : List Cv) {G : Gh} {s : St}, RelSt w G tm df [] [] s → ∃ G', RelSt w G' tm df [] [] (Zdn l s) ∧ Ext w G (cntS w G tm [] [] s) w G' (cntS w G' tm [] [] (Zdn l s)) ∧ (Zdn l s).r = s.r ∧ (Zdn l s).d = s.d
  | [], G, s, h => ⟨G, h, .refl _ _ _, rfl, rfl⟩
  | c :: l, G, s, h => by
    obtain ⟨G1, a1, a2, a3, a4⟩ := cv1_rel h c
    obtain ⟨G2, b1, b2, b3, b4⟩ := Zsf l a1
    exact ⟨G2, b1, a2.trans b2, b3.trans a3, b4.trans a4⟩
end
end Go.Abs
namespace Go.Abs
def cM : List Deferred → Nat → Nat
  | [], _ => 0
  | d :: df, b => (match d.target with | .collected b' => if b' = b then 1 else 0 | _ => 0) + cM df b
def RcOK (w : World) (G : Gh) (F : Fr) (cs : List Frame) : Rc → Prop
  | .no => F.ro = none
  | .rnd l => ∃ b, F.ro = some b ∧ G.ob[l]? = some b
  | .nil => F.ro = none ∧ F.kind = .deferred ∧ ∃ c t, cs = c :: t ∧ c.mode = .returning
  | .avail d => F.ro = none ∧ F.kind = .deferred ∧ ∃ c t v, cs = c :: t ∧ c.mode = .panicking [{ v := v, recovered := false }] ∧ RelD w G v d ∧ ∀ b, tokT b v d = 0
  | .took => F.ro = none ∧ F.kind = .deferred ∧ ∃ c t v, cs = c :: t ∧ c.mode = .panicking [{ v := v, recovered := true }]
theorem RcOK.keep {w w' : World} {G G' : Gh} {F : Fr} {cs : List Frame} {r : Rc} (h : RcOK w G F cs r) (k : Later w G w' G') : RcOK w' G' F cs r := by
  cases r with
  | no => exact h
  | rnd l => obtain ⟨b, h1, h2⟩ := h; exact ⟨b, h1, k.ob l b h2⟩
  | nil => exact h
  | avail d => obtain ⟨h1, h2, c, t, v, h3, h4, h5, h6⟩ := h; exact ⟨h1, h2, c, t, v, h3, h4, h5.mono k, h6⟩
  | took => exact h
def CsTo (r r' : Rc) (cs cs' : List Frame) : Prop :=
  (r' = r ∧ cs' = cs) ∨ ∃ d c t v, r = .avail d ∧ r' = .took ∧ cs = c :: t ∧ c.mode = .panicking [{ v := v, recovered := false }] ∧ cs' = { c with mode := .panicking [{ v := v, recovered := true }] } :: t
theorem CsTo.refl (r : Rc) (cs : List Frame) : CsTo r r cs cs := .inl ⟨rfl, rfl⟩
theorem CsTo.trans {r r1 r2 : Rc} {cs cs1 cs2 : List Frame} (h : CsTo r r1 cs cs1) (k : CsTo r1 r2 cs1 cs2) : CsTo r r2 cs cs2 := by
  rcases h with ⟨rfl, rfl⟩ | ⟨d, c, t, v, h1, h2, h3, h4, h5⟩
  · exact k
  · rcases k with ⟨rfl, rfl⟩ | ⟨d', c', t', v', k1, _⟩
    · exact .inr ⟨d, c, t, v, h1, h2, h3, h4, h5⟩
    · rw [h2] at k1; cases k1
structure Ok (w : World) (G : Gh) (F : Fr) (tm : List Value) (df : List Deferred) (cs : List Frame) (s : St) : Prop where
  rel : RelSt w G tm df [] [] s
  rc : RcOK w G F cs s.r
  mks : ∀ b, cM df b ≤ 1
structure To (F : Fr) (w : World) (G : Gh) (tm : List Value) (df : List Deferred) (cs : List Frame) (s : St) (w' : World) (G' : Gh) (tm' : List Value) (df' : List Deferred) (cs' : List Frame) (s' : St) : Prop where
  ext : Ext w G (fun b => cntS w G tm [] [] s b + cM df b) w' G' (fun b => cntS w' G' tm' [] [] s' b + cM df' b)
  cs : CsTo s.r s'.r cs cs'
  ro : F.ro ≠ none → df' = df
theorem To.refl (F : Fr) (w : World) (G : Gh) (tm : List Value) (df : List Deferred) (cs : List Frame) (s : St) : To F w G tm df cs s w G tm df cs s := ⟨.refl _ _ _, .refl _ _, fun _ => rfl⟩
theorem To.trans {F : Fr} {w w1 w2 : World} {G G1 G2 : Gh} {tm tm1 tm2 : List Value} {df df1 df2 : List Deferred} {cs cs1 cs2 : List Frame} {s s1 s2 : St}
    (h : To F w G tm df cs s w1 G1 tm1 df1 cs1 s1) (k : To F w1 G1 tm1 df1 cs1 s1 w2 G2 tm2 df2 cs2 s2) : To F w G tm df cs s w2 G2 tm2 df2 cs2 s2 :=
  ⟨h.ext.trans k.ext, h.cs.trans k.cs, fun hr => (k.ro hr).trans (h.ro hr)⟩
def panF (F : Fr) (tm : List Value) (df : List Deferred) (k : List Item) (v : Value) : Frame := { mkF F tm df k with mode := .panicking [{ v := v, recovered := false }] }
def noCall : List Item → Bool
  | .call .. :: _ => false
  | _ => true
def Goes (P : Program) (m : Machine) (F : Fr) (X : X) (tm : List Value) (df : List Deferred) (k : List Item) (cs : List Frame) (w : World) (G : Gh) (dl : List (FuncId × List D)) : Prop :=
  match X with
  | .nrm => Steps P m (lone (mkF F tm df k) cs w)
  | .ext id => ∃ k2, exitTo id k2 = exitTo id k ∧ Steps P m (lone (mkF F tm df (.code (.exit id) :: k2)) cs w)
  | .gto l => ∃ k2, gotoIn l k2 = gotoIn l k ∧ Steps P m (lone (mkF F tm df (.code (.goto l) :: k2)) cs w)
  | .ret => ∃ k2, Steps P m (lone (mkF F tm df (.code .ret :: k2)) cs w)
  | .pan d => ∃ k2 v tmX, (dl ≠ [] → tmX = tm) ∧ noCall k2 = true ∧ Steps P m (lone (panF F tmX df k2 v) cs w) ∧ RelD w G v d ∧ ∀ b, tokT b v d = 0
theorem Goes.of_steps {P : Program} {m m1 : Machine} {F : Fr} {X : X} {tm : List Value} {df : List Deferred} {k : List Item} {cs : List Frame} {w : World} {G : Gh} {dl : List (FuncId × List D)}
    (h : Steps P m m1) (g : Goes P m1 F X tm df k cs w G dl) : Goes P m F X tm df k cs w G dl := by
  cases X with
  | nrm => exact h.trans g
  | ext id => obtain ⟨k2, h1, h2⟩ := g; exact ⟨k2, h1, h.trans h2⟩
  | gto id => obtain ⟨k2, h1, h2⟩ := g; exact ⟨k2, h1, h.trans h2⟩
  | ret => obtain ⟨k2, h2⟩ := g; exact ⟨k2, h.trans h2⟩
  | pan d => obtain ⟨k2, v, tX, hX, h0, h1, h2⟩ := g; exact ⟨k2, v, tX, hX, h0, h.trans h1, h2⟩
def Arr (P : Program) (m : Machine) (F : Fr) (w : World) (G : Gh) (tm : List Value) (df : List Deferred) (k : List Item) (cs : List Frame) (s : St) (X : X) (s' : St) : Prop :=
  ∃ w' G' tm' df' cs', Goes P m F X tm' df' k cs' w' G' s'.d ∧ Ok w' G' F tm' df' cs' s' ∧ To F w G tm df cs s w' G' tm' df' cs' s'
section
variable {P : Program} {m m1 : Machine} {F : Fr} {w : World} {G : Gh} {tm : List Value} {df : List Deferred} {k k1 : List Item} {cs : List Frame} {s s1 s2 : St} {X : X}
theorem Arr.of_steps (h : Steps P m m1) (g : Arr P m1 F w G tm df k cs s X s1) : Arr P m F w G tm df k cs s X s1 := by
  obtain ⟨w', G', tm', df', cs', h1, h2, h3⟩ := g
  exact ⟨w', G', tm', df', cs', h1.of_steps h, h2, h3⟩
theorem Arr.next (h : Arr P m F w G tm df k1 cs s .nrm s1)
    (g : ∀ w1 G1 tm1 df1 cs1, Ok w1 G1 F tm1 df1 cs1 s1 → Arr P (lone (mkF F tm1 df1 k1) cs1 w1) F w1 G1 tm1 df1 k cs1 s1 X s2) : Arr P m F w G tm df k cs s X s2 := by
  obtain ⟨w1, G1, tm1, df1, cs1, h1, h2, h3⟩ := h
  obtain ⟨w2, G2, tm2, df2, cs2, g1, g2, g3⟩ := g w1 G1 tm1 df1 cs1 h2
  exact ⟨w2, G2, tm2, df2, cs2, g1.of_steps h1, g2, h3.trans g3⟩
theorem Arr.pass {x : Item} (hx : x.plain = true) (hX : X ≠ .nrm) (h : Arr P m F w G tm df (x :: k) cs s X s1) : Arr P m F w G tm df k cs s X s1 := by
  obtain ⟨w', G', tm', df', cs', h1, h2, h3⟩ := h
  refine ⟨w', G', tm', df', cs', ?_, h2, h3⟩
  cases X with
  | nrm => exact absurd rfl hX
  | ext id => obtain ⟨k2, q1, q2⟩ := h1; exact ⟨k2, by rw [q1]; cases x <;> simp_all [exitTo, Item.plain], q2⟩
  | gto l => obtain ⟨k2, q1, q2⟩ := h1; exact ⟨k2, by rw [q1]; cases x <;> simp_all [gotoIn, Item.plain], q2⟩
  | ret => exact h1
  | pan d => exact h1
theorem Arr.nrm (h : Ok w G F tm df cs s) : Arr P (lone (mkF F tm df k) cs w) F w G tm df k cs s .nrm s := ⟨w, G, tm, df, cs, .refl _ _, h, .refl _ _ _ _ _ _ _⟩
def Starts (c : Code) (it : Item) : Prop := it = .code c ∨ ∃ c', c = .loop c' ∧ it = .inLoop c'
def ME (P : Program) (fn : FuncId) (c : Code) (s : St) (r : Abs.X × St) : Prop :=
  ∀ (F : Fr) (w : World) (G : Gh) (tm : List Value) (df : List Deferred) (k : List Item) (cs : List Frame) (it : Item), Starts c it → F.fn = fn → Ok w G F tm df cs s →
    Arr P (lone (mkF F tm df (it :: k)) cs w) F w G tm df k cs s r.1 r.2
def MI (P : Program) (fn : FuncId) (body c : Code) (s : St) (r : Abs.X × St) : Prop :=
  ∀ (F : Fr) (w : World) (G : Gh) (tm : List Value) (df : List Deferred) (k : List Item) (cs : List Frame), F.fn = fn → Ok w G F tm df cs s →
    Arr P (lone (mkF F tm df (.code c :: .inScope body :: k)) cs w) F w G tm df k cs s r.1 r.2
def MO (P : Program) (all : Array Oper) (l : List Oper) (s : St) (r : Abs.X × St) : Prop :=
  ∀ (F : Fr) (w : World) (G : Gh) (tm : List Value) (df : List Deferred) (k : List Item) (cs : List Frame) (is : List Nat), is.map (fun i => all[i]?) = l.map some → Ok w G F tm df cs s →
    Arr P (lone (mkF F tm df (.inRegion all is :: k)) cs w) F w G tm df k cs s r.1 r.2
theorem ME.code {fn : FuncId} {c : Code} {r : Abs.X × St} (h : ME P fn c s r) (hF : F.fn = fn) (h' : Ok w G F tm df cs s) : Arr P (lone (mkF F tm df (.code c :: k)) cs w) F w G tm df k cs s r.1 r.2 :=
  h F w G tm df k cs _ (.inl rfl) hF h'
theorem ME.of {fn : FuncId} {c : Code} {r : Abs.X × St} (hc : ∀ c', c ≠ .loop c') (h : ∀ (F : Fr) (w : World) (G : Gh) (tm : List Value) (df : List Deferred) (k : List Item) (cs : List Frame), F.fn = fn → Ok w G F tm df cs s →
    Arr P (lone (mkF F tm df (.code c :: k)) cs w) F w G tm df k cs s r.1 r.2) : ME P fn c s r := by
  intro F w G tm df k cs it hi hF h'
  rcases hi with rfl | ⟨c', rfl, _⟩
  · exact h F w G tm df k cs hF h'
  · exact absurd rfl (hc c')
theorem ME.ghost {fn : FuncId} {c : Code} {s' : St} {r : Abs.X × St} (hc : ∀ c', c ≠ .loop c')
    (hg : ∀ {w : World} {G : Gh} {tm : List Value} {df : List Deferred}, RelSt w G tm df [] [] s → ∃ G', RelSt w G' tm df [] [] s' ∧ Ext w G (cntS w G tm [] [] s) w G' (cntS w G' tm [] [] s') ∧ s'.r = s.r ∧ s'.d = s.d) (h : ME P fn c s' r) : ME P fn c s r := by
  refine .of hc fun F w G tm df k cs hF h' => ?_
  obtain ⟨G', a1, a2, a3, _⟩ := hg h'.rel
  obtain ⟨w2, G2, tm2, df2, cs2, b1, b2, b3⟩ := h.code (k := k) (cs := cs) hF ⟨a1, by rw [a3]; exact h'.rc.keep a2.later, h'.mks⟩
  refine ⟨w2, G2, tm2, df2, cs2, b1, b2, ?_⟩
  have t1 : To F w G tm df cs s w G' tm df cs s' := ⟨a2.weaken (fun b => by omega) (fun b hb => by have := a2.cnt b hb; omega), by rw [a3]; exact .refl _ _, fun _ => rfl⟩
  exact t1.trans b3
theorem me_skip {fn : FuncId} : ME P fn .skip s (.nrm, s) := .of (by simp) fun F w G tm df k cs _ h => (Arr.nrm h).of_steps (.one go_skip)
theorem me_label {fn : FuncId} {l : Nat} : ME P fn (.label l) s (.nrm, s) := .of (by simp) fun F w G tm df k cs _ h => (Arr.nrm h).of_steps (.one go_label)
theorem me_exit {fn : FuncId} {id : Nat} : ME P fn (.exit id) s (.ext id, s) := .of (by simp) fun F w G tm df k cs _ h => ⟨w, G, tm, df, cs, ⟨k, rfl, .refl _ _⟩, h, .refl _ _ _ _ _ _ _⟩
theorem me_goto {fn : FuncId} {l : Nat} : ME P fn (.goto l) s (.gto l, s) := .of (by simp) fun F w G tm df k cs _ h => ⟨w, G, tm, df, cs, ⟨k, rfl, .refl _ _⟩, h, .refl _ _ _ _ _ _ _⟩
theorem me_ret {fn : FuncId} : ME P fn .ret s (.ret, s) := .of (by simp) fun F w G tm df k cs _ h => ⟨w, G, tm, df, cs, ⟨k, .refl _ _⟩, h, .refl _ _ _ _ _ _ _⟩
theorem me_seq {fn : FuncId} {a b : Code} {r r2 : Abs.X × St} (h1 : ME P fn a s r) (h2 : (r.1 = .nrm ∧ ME P fn b r.2 r2) ∨ (r.1 ≠ .nrm ∧ r2 = r)) : ME P fn (.seq a b) s r2 := by
  refine .of (by simp) fun F w G tm df k cs hF h => ?_
  have q := h1.code (k := .code b :: k) hF h
  rcases h2 with ⟨hr, h2⟩ | ⟨hr, rfl⟩
  · rw [hr] at q
    exact (q.next (fun w1 G1 tm1 df1 cs1 h' => h2.code hF h')).of_steps (.one go_seq)
  · exact (q.pass rfl hr).of_steps (.one go_seq)
theorem me_cond {fn : FuncId} {c : Operand} {a b : Code} {t : Bool} {r : Abs.X × St} (hc : rd s c = some (.e (.bool t))) (h : ME P fn (if t then a else b) s r) : ME P fn (.cond c a b) s r :=
  .of (by simp) fun F w G tm df k cs hF h' => (h.code hF h').of_steps (.one (go_cond (Ziz (Zh1 h'.rel hc))))
theorem Zvn {fn : FuncId} {id : Nat} {c : Code} {r r2 : Abs.X × St} (h : ME P fn c s r) (h2 : (r.1 = .ext id ∧ r2 = (.nrm, r.2)) ∨ (r.1 ≠ .ext id ∧ r2 = r)) : ME P fn (.block id c) s r2 := by
  refine .of (by simp) fun F w G tm df k cs hF h' => ?_
  obtain ⟨w', G', tm', df', cs', q1, q2, q3⟩ := h.code (k := .inBlock id :: k) hF h'
  obtain ⟨rX, rs⟩ := r
  rcases h2 with ⟨hr, rfl⟩ | ⟨hr, rfl⟩
  · simp only at hr
    subst hr
    obtain ⟨k2, a1, a2⟩ := q1
    refine ⟨w', G', tm', df', cs', .head Zoe (a2.trans (.one (go_exit ?_))), q2, q3⟩
    rw [a1]; simp [exitTo]
  · refine ⟨w', G', tm', df', cs', ?_, q2, q3⟩
    cases rX with
    | nrm => exact .head Zoe (Steps.trans q1 (.one go_inBlock))
    | ext i =>
      obtain ⟨k2, a1, a2⟩ := q1
      refine ⟨k2, ?_, .head Zoe a2⟩
      have hne : (id == i) = false := by simp only [ne_eq, Abs.X.ext.injEq] at hr; simp; exact fun e => hr e.symm
      rw [a1]; simp [exitTo, hne]
    | gto l => obtain ⟨k2, a1, a2⟩ := q1; exact ⟨k2, by rw [a1]; simp [gotoIn], .head Zoe a2⟩
    | ret => obtain ⟨k2, a2⟩ := q1; exact ⟨k2, .head Zoe a2⟩
    | pan d => obtain ⟨k2, v, tX, hX, a0, a1, a2⟩ := q1; exact ⟨k2, v, tX, hX, a0, .head Zoe a1, a2⟩
theorem me_loop {fn : FuncId} {c : Code} {r r2 : Abs.X × St} (h : ME P fn c s r) (h2 : (r.1 = .nrm ∧ ME P fn (.loop c) r.2 r2) ∨ (r.1 ≠ .nrm ∧ r2 = r)) : ME P fn (.loop c) s r2 := by
  intro F w G tm df k cs it hi hF h'
  have q := h.code (k := .inLoop c :: k) hF h'
  have key : Arr P (lone (mkF F tm df (.code c :: .inLoop c :: k)) cs w) F w G tm df k cs s r2.1 r2.2 := by
    rcases h2 with ⟨hr, h2⟩ | ⟨hr, rfl⟩
    · rw [hr] at q
      exact q.next (fun w1 G1 tm1 df1 cs1 h'' => h2 F w1 G1 tm1 df1 k cs1 _ (.inr ⟨c, rfl, rfl⟩) hF h'')
    · exact q.pass rfl hr
  rcases hi with rfl | ⟨c', hc, rfl⟩
  · exact key.of_steps (.one go_loop)
  · cases hc; exact key.of_steps (.one go_inLoop)
theorem me_scope {fn : FuncId} {c : Code} {r : Abs.X × St} (h : MI P fn c c s r) : ME P fn (.scope c) s r :=
  .of (by simp) fun F w G tm df k cs hF h' => (h F w G tm df k cs hF h').of_steps (.one go_scope)
theorem mi_in {fn : FuncId} {body c : Code} {r r2 : Abs.X × St} (h : ME P fn c s r)
    (h2 : (∃ l rest, r.1 = .gto l ∧ findLabel body l = some rest ∧ MI P fn body rest r.2 r2) ∨ ((∀ l, r.1 = .gto l → findLabel body l = none) ∧ r2 = r)) : MI P fn body c s r2 := by
  intro F w G tm df k cs hF h'
  obtain ⟨w', G', tm', df', cs', q1, q2, q3⟩ := h.code (k := .inScope body :: k) hF h'
  obtain ⟨rX, rs⟩ := r
  rcases h2 with ⟨l, rest, hr, hl, h2⟩ | ⟨hr, rfl⟩
  · simp only at hr
    subst hr
    obtain ⟨k2, a1, a2⟩ := q1
    have := (h2 F w' G' tm' df' k cs' hF q2)
    obtain ⟨w2, G2, tm2, df2, cs2, b1, b2, b3⟩ := this
    refine ⟨w2, G2, tm2, df2, cs2, b1.of_steps (a2.trans (.one (go_goto ?_))), b2, q3.trans b3⟩
    rw [a1]; simp [gotoIn, hl]
  · refine ⟨w', G', tm', df', cs', ?_, q2, q3⟩
    cases rX with
    | nrm => exact Steps.trans q1 (.one go_inScope)
    | ext i => obtain ⟨k2, a1, a2⟩ := q1; exact ⟨k2, by rw [a1]; simp [exitTo], a2⟩
    | gto l => obtain ⟨k2, a1, a2⟩ := q1; exact ⟨k2, by rw [a1]; simp [gotoIn, hr l rfl], a2⟩
    | ret => exact q1
    | pan d => exact q1
theorem me_region {fn : FuncId} {id : Nat} {ops : Array Oper} {r : Abs.X × St} (h : MO P ops ops.toList s r) : ME P fn (.region id ops false) s r := by
  refine .of (by simp) fun F w G tm df k cs hF h' => (h F w G tm df k cs (List.range ops.size) ?_ h').of_steps (.one go_region)
  apply List.ext_getElem?
  intro i
  by_cases hi : i < ops.size
  · simp [hi]
  · simp [hi]
theorem mo_nil {all : Array Oper} : MO P all [] s (.nrm, s) := by
  intro F w G tm df k cs is hi h
  have : is = [] := by simpa using hi
  subst this
  exact (Arr.nrm h).of_steps (.one go_inRegion)
end
end Go.Abs
namespace Go.Abs
section
variable {P : Program} {w : World} {G : Gh} {tm : List Value} {df : List Deferred} {pv : List Value} {pd : List D} {s : St}
theorem Zwx (h : RelSt w G tm df pv pd s) {rest : List Oper} {o : Oper} {c : Call} (ho : o.op = .call c) (hc : c.callee = .builtin .min ∨ c.callee = .builtin .max) {d : D} {s1 : St} (hx : exOp P rest o s = some (.val d, s1)) : Ziv P w G tm df pv pd s o d s1 := by
  rcases hc with hc | hc
  all_goals
    simp only [exOp, ho, hc] at hx
    unfold Zge at hx
    split at hx
    all_goals first | (simp at hx; done) | skip
    all_goals rename_i heq1 heq2
    all_goals try (cases heq1; done)
  · rename_i x y
    have hargs : c.args = #[x, y] := by apply Array.ext'; simpa using heq2
    split at hx
    · rename_i a b h1 h2
      obtain ⟨d', h3, h4⟩ := Option.map_eq_some_iff.1 hx
      simp only [Prod.mk.injEq, Out.val.injEq] at h4
      obtain ⟨rfl, rfl⟩ := h4
      have r1 := Zh1 h h1; have r2 := Zh1 h h2
      unfold min2 at h3
      split at h3
      · rename_i k i k' j
        split at h3
        · rename_i hk; subst hk
          simp at h3; subst h3
          have e1 := Zgb r1; have e2 := Zgb r2
          refine Zen h (v := .int k (if j < i then j else i)) ?_ (.e _ _ (.int _ _)) (fun b => by rw [Zda rfl, Zme])
          rw [Zjw ho hc]
          simp [builtin, hargs, e1, e2, Builtin.min_, Builtin.min2]
        · simp at h3
      · simp at h3
    · simp at hx
  · rename_i x y
    have hargs : c.args = #[x, y] := by apply Array.ext'; simpa using heq2
    split at hx
    · rename_i a b h1 h2
      obtain ⟨d', h3, h4⟩ := Option.map_eq_some_iff.1 hx
      simp only [Prod.mk.injEq, Out.val.injEq] at h4
      obtain ⟨rfl, rfl⟩ := h4
      have r1 := Zh1 h h1; have r2 := Zh1 h h2
      unfold max2 at h3
      split at h3
      · rename_i k i k' j
        split at h3
        · rename_i hk; subst hk
          simp at h3; subst h3
          have e1 := Zgb r1; have e2 := Zgb r2
          refine Zen h (v := .int k (if j > i then j else i)) ?_ (.e _ _ (.int _ _)) (fun b => by rw [Zda rfl, Zme])
          rw [Zjw ho hc]
          simp [builtin, hargs, e1, e2, Builtin.max_, Builtin.max2]
        · simp at h3
      · simp at h3
    · simp at hx
theorem iface_tok (b : Nat) (v : Value) (t : TypeId) (d : D) : tokT b v (.iface t d) = 0 := by
  unfold tokT; split
  · simp_all
  · unfold tokA; split
    · simp_all
    · unfold tok; split <;> simp_all
theorem e_tok (b : Nat) (v : Value) (x : E) : tokT b v (.e x) = 0 := by rw [Zda rfl, Zme]
theorem Zww {x : Operand} {d d0 : D} (h : RelSt w G tm df pv pd s) (hx : rd s x = some d0) (hd : (∃ t e, d0 = .iface t e) ∨ ∃ t e, d0 = .e (.iface t e)) (hdd : d = d0) :
    ∃ v, (Instr.panic (ev tm x)).run P w = .halt (.panic v) w ∧ RelD w G v d ∧ ∀ b, tokT b v d = 0 := by
  subst hdd
  have r := Zh1 h hx
  generalize ev tm x = v at r
  rcases hd with ⟨t, e, rfl⟩ | ⟨t, e, rfl⟩
  · cases r with
    | iface _ u _ hr => exact ⟨_, rfl, .iface _ _ _ hr, fun b => iface_tok b _ _ _⟩
  · have r' := Zg8 r
    cases r' with
    | iface _ u _ hr => exact ⟨_, rfl, .e _ _ (.iface _ _ _ hr), fun b => e_tok b _ _⟩
theorem op_pan (h : RelSt w G tm df pv pd s) {rest : List Oper} {o : Oper} {d : D} {s1 : St} (hx : exOp P rest o s = some (.pan d, s1)) :
    s1 = s ∧ (∀ c, o.op ≠ .defer c) ∧ ∃ v, (execOp (ev tm) o).run P w = .halt (.panic v) w ∧ RelD w G v d ∧ ∀ b, tokT b v d = 0 := by
  have key : ∀ x, (o.op = .panic x ∨ ∃ c, o.op = .call c ∧ c.callee = .builtin .panic ∧ c.args.toList = [x]) →
      (match rd s x with
        | some (.iface t d) => some (Out.pan (.iface t d), s)
        | some (.e (.iface t d)) => some (Out.pan (.e (.iface t d)), s)
        | _ => none) = some (Out.pan d, s1) → s1 = s ∧ (∀ c, o.op ≠ .defer c) ∧ ∃ v, (execOp (ev tm) o).run P w = .halt (.panic v) w ∧ RelD w G v d ∧ ∀ b, tokT b v d = 0 := by
    intro x ho hm
    have hrun : ∀ v, (Instr.panic (ev tm x)).run P w = .halt (.panic v) w → (execOp (ev tm) o).run P w = .halt (.panic v) w := by
      intro v hv
      rcases ho with ho | ⟨c, ho, hc, ha⟩
      · simp [execOp, ho, hv, Result.andThen]
      · have hargs : c.args = #[x] := by apply Array.ext'; simpa using ha
        rw [Zjw ho hc]
        simp [builtin, hargs, hv, Result.andThen]
    have hnd : ∀ c, o.op ≠ .defer c := by
      rcases ho with ho | ⟨c, ho, _⟩ <;> rw [ho] <;> simp
    split at hm
    · rename_i t e hrd
      simp at hm; obtain ⟨rfl, rfl⟩ := hm
      obtain ⟨v, q1, q2⟩ := Zww (P := P) (d := .iface t e) h hrd (.inl ⟨t, e, rfl⟩) rfl
      exact ⟨rfl, hnd, v, hrun v q1, q2⟩
    · rename_i t e hrd
      simp at hm; obtain ⟨rfl, rfl⟩ := hm
      obtain ⟨v, q1, q2⟩ := Zww (P := P) (d := .e (.iface t e)) h hrd (.inr ⟨t, e, rfl⟩) rfl
      exact ⟨rfl, hnd, v, hrun v q1, q2⟩
    · simp at hm
  cases ho : o.op
  case panic x => rw [ho] at key; simp only [exOp, ho] at hx; exact key x (.inl rfl) hx
  case call c =>
    rw [ho] at key
    simp only [exOp, ho] at hx
    split at hx
    · rename_i b hb
      unfold Zge at hx
      split at hx
      case h_5 x heq =>
        exact key x (.inr ⟨c, rfl, hb, heq⟩) hx
      all_goals (exfalso; (repeat' (split at hx)) <;> simp [Option.bind_eq_some_iff] at hx)
    · simp at hx
  case makeMap t r => exfalso; cases r <;> simp [exOp, ho] at hx
  all_goals (exfalso; simp only [exOp, ho] at hx)
  all_goals (repeat' (split at hx))
  all_goals (first | (simp at hx; done) | (simp [Option.bind_eq_some_iff] at hx; done) | skip)
theorem op_defer (h : RelSt w G tm df pv pd s) {rest : List Oper} {o : Oper} {c : Call} (ho : o.op = .defer c) {d : D} {s1 : St} (hx : exOp P rest o s = some (.val d, s1)) :
    ∃ G' g cap args ds, d = Zaw ∧ (execOp (ev tm) o).run P w = .ok (.defer { target := .fn (.func g) cap, args := args }) w ∧ s1.d = (g, ds) :: s.d ∧ s1.h = s.h ∧ s1.r = s.r ∧ (∀ l, s.r ≠ .rnd l) ∧
      RelSt w G' tm ({ target := .fn (.func g) cap, args := args } :: df) pv pd s1 ∧ Ext w G (cntS w G tm pv pd s) w G' (cntS w G' tm pv pd s1) := by
  simp only [exOp, ho] at hx
  split at hx
  · rename_i f hf
    split at hx
    · simp at hx
    · rename_i hr
      split at hx
      · rename_i g first cap ds s2 h1 h2
        split at hx
        · simp at hx
        · rename_i hno
          simp at hx
          obtain ⟨rfl, rfl⟩ := hx
          have hno' : ∀ d ∈ first ++ cap, ownD d = false := by
            intro d hd'
            cases hod : ownD d with
            | false => rfl
            | true => exact absurd (List.any_eq_true.2 ⟨d, hd', hod⟩) hno
          have rf := Zh1 h h1
          obtain ⟨G', m1, m2, m3, m4, m5, m6, m7⟩ := Zs6 _ h h2
          have rf' : RelD w G' (ev tm f) (.func (.func g) first cap) := rf.mono m2.later
          generalize hfv : ev tm f = fv at rf'
          cases rf' with
          | func _ vs us _ _ l1 l2 hd hc =>
            have hrel : RelDf w G' ({ target := .fn (.func g) us, args := vs ++ c.args.map (ev tm) } :: df) ((g, first ++ ds ++ cap) :: s2.d) := by
              have hall : ∀ (i : Nat) v d, (vs.toList ++ c.args.toList.map (ev tm) ++ us.toList)[i]? = some v → (first ++ ds ++ cap)[i]? = some d → RelD w G' v d ∧ ownD d = false := by
                intro i v d hv hd'
                by_cases h1 : i < first.length
                · rw [Ya7 (by simp; omega), Ya7 (by simp; omega)] at hv
                  rw [Ya7 (by simp; omega), Ya7 h1] at hd'
                  exact ⟨hd i v d (by simpa using hv) hd', hno' d (by simp [List.mem_of_getElem? hd'])⟩
                · by_cases h2 : i < first.length + ds.length
                  · rw [Ya7 (by simp at m5 ⊢; omega), List.getElem?_append_right (by simp; omega)] at hv
                    rw [Ya7 (by simp; omega), List.getElem?_append_right (by omega)] at hd'
                    simp only [Array.length_toList, l1] at hv
                    rw [List.getElem?_map] at hv
                    cases hx' : c.args.toList[i - first.length]? with
                    | none => rw [hx'] at hv; simp at hv
                    | some x =>
                      rw [hx'] at hv; simp at hv; subst hv
                      exact m7 _ x d hx' hd'
                  · rw [List.getElem?_append_right (by simp at m5 ⊢; omega)] at hv
                    rw [List.getElem?_append_right (by simp; omega)] at hd'
                    simp only [List.length_append, Array.length_toList, List.length_map, l1] at hv hd'
                    have m5' : c.args.size = ds.length := by simpa using m5
                    rw [m5'] at hv
                    exact ⟨hc _ v d (by simpa using hv) hd', hno' d (by simp [List.mem_of_getElem? hd'])⟩
              refine .fn g us _ _ df s2.d (by simp at m5 ⊢; omega) (fun i v d hv hd' => ?_) m1.dfr
              obtain ⟨q1, q2⟩ := hall i v d (by rw [← hv]; simp [← Array.getElem?_toList]) hd'
              exact ⟨q1, fun b => Zhc q1 q2⟩
            refine ⟨G', g, us, vs ++ c.args.map (ev tm), first ++ ds ++ cap, rfl, ?_, by simp [m3], m6, m4, fun l hl => hr l hl, ?_, ?_⟩
            · simp [execOp, ho, resolve, hf, hfv, Deferred.ofValue]
            · exact { L := m1.L, P := m1.P, len := m1.len, nd := m1.nd, obS := m1.obS, H := m1.H, S := m1.S, one := m1.one, noob := m1.noob, dfr := by simpa using hrel }
            · exact m2
      · simp at hx
  · simp at hx
theorem op_recover {o : Oper} {c : Call} (ho : o.op = .call c) (hc : c.callee = .builtin .recover) (w : World) : (execOp (ev tm) o).run P w = .ok .recover w := by
  rw [Zjw ho hc]; simp [builtin]
theorem op_all (h : RelSt w G tm df pv pd s) {rest : List Oper} {o : Oper} {d : D} {s1 : St} (hx : exOp P rest o s = some (.val d, s1))
    (h1 : ∀ c, o.op ≠ .defer c) (h2 : ∀ c, o.op = .call c → c.callee ≠ .builtin .recover) : Ziv P w G tm df pv pd s o d s1 := by
  cases ho : o.op
  case move => exact op_move h ho hx
  case assign => exact op_assign h ho hx
  case pick => exact op_pick h ho hx
  case alloc => exact op_alloc h ho hx
  case box => exact op_box h ho hx
  case build => exact op_build h ho hx
  case buildSlice => exact Zvh h ho hx
  case load => exact op_load h ho hx
  case store => exact op_store h ho hx
  case nilCheck => exact Zyn h ho hx
  case binOp => exact op_binOp h ho hx
  case unOp => exact op_unOp h ho hx
  case convert => exact op_convert h ho hx
  case makeInterface => exact Zre h ho hx
  case makeFunc => exact Zyo h ho hx
  case makeMap => exact op_makeMap h ho hx
  case makeSlice => exact Zwy h ho hx
  case slice => exact op_slice h ho hx
  case fieldAddr => exact Zx0 h ho hx
  case field => exact op_field h ho hx
  case indexAddr => exact Zwz h ho hx
  case index => exact op_index h ho hx
  case lookup => exact op_lookup h ho hx
  case mapUpdate => exact Zr7 h (.inl ho) hx
  case insert => exact Zr7 h (.inr ho) hx
  case typeAssert => exact Zvg h ho hx
  case extract => exact op_extract h ho hx
  case defer c => exact absurd ho (h1 c)
  case call c =>
    cases hc : c.callee
    case builtin b =>
      cases b
      case len => exact op_len h ho hc hx
      case append => exact op_append h ho hc hx
      case min => exact Zwx h ho (.inl hc) hx
      case max => exact Zwx h ho (.inr hc) hx
      case recover => exact absurd hc (h2 c ho)
      all_goals (exfalso; simp only [exOp, ho, hc] at hx; unfold Zge at hx; (repeat' (split at hx)) <;> first | contradiction | (simp at hx; done))
    all_goals (exfalso; simp [exOp, ho, hc] at hx)
  case panic x => exfalso; simp only [exOp, ho] at hx; (repeat' (split at hx)) <;> simp at hx
  all_goals (exfalso; simp [exOp, ho] at hx)
end
end Go.Abs
