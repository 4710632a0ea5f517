/-
  SEALING: a value that one owned alone is from here on also another's: its cells change no more. STEPS OF THE RELATION THAT MAKE OR WRITE MEMORY: a new block, a new object, cells of an object. CELLS OF AN OBJECT: taken, put back, stored into. No condition.
-/
import Derived.Test.YtkimilghfbgjmaaQ02

open List renaming getElem?_append_left → Ya7, getElem?_append_right → Ya8, getElem?_set_ne → Ya9, mem_of_getElem? → Yaa
open Nat renaming le_refl → Yab
namespace Go.Abs
theorem RelO.keep {w w' : World} {G G' : Gh} {bi : Nat} {o : O} (h : RelO w G bi o) (k : Later w G w' G') (hbi : w'.heap[bi]? = w.heap[bi]?)
    (ht : ∀ b, 0 < Zg5 w b bi o → w'.heap[b]? = w.heap[b]? ∧ ∀ j, G'.S b j → G.S b j) : RelO w' G' bi o := by
  cases o with
  | cells cs =>
    obtain ⟨arr, elem, fz, h1, h2, h3, h4, h5⟩ := h
    refine ⟨arr, elem, fz, hbi.trans h1, ?_, h3, h4, fun i v d hi hd => ⟨(h5 i v d hi hd).1.mono k, (h5 i v d hi hd).2.keep k.S k.cell (fun b hb => ht b ?_)⟩⟩
    · intro j hj
      have := h2 j hj
      simp only [World.frozen?] at this ⊢
      rw [hbi]; exact this
    · simp only [Zg5, h1]
      exact Nat.lt_of_lt_of_le hb (Zjk _ _ _ i _ _ (by simpa using hi) hd)
  | map es =>
    obtain ⟨ents, clock, h1, h2, h3⟩ := h
    exact ⟨ents, clock, hbi.trans h1, h2, fun i m kk d hi hd => ⟨(h3 i m kk d hi hd).1.mono k.S k.cell, (h3 i m kk d hi hd).2.1.mono k, (h3 i m kk d hi hd).2.2⟩⟩
  | loop st pd fn env ps asg body =>
    obtain ⟨tm, bd, h1, h2, h3⟩ := h
    exact ⟨tm, bd, hbi.trans h1, h2.keep k (fun b hb => by rw [h3 b] at hb; exact absurd hb (by omega)), h3⟩
  | dead => trivial
theorem RelDf.keep {w w' : World} {G G' : Gh} {df : List Deferred} {l : List (FuncId × List D)} (h : RelDf w G df l) (k : Later w G w' G')
    (hm : ∀ b, w.heap[b]? = some (.deferred (some [])) → b ∉ G.ob → w'.heap[b]? = w.heap[b]? ∧ b ∉ G'.ob) : RelDf w' G' df l := by
  induction h with
  | nil => exact .nil
  | fn g cap args ds df l hl h _ ih => exact .fn g cap args ds df l hl (fun i v d hi hd => ⟨(h i v d hi hd).1.mono k, (h i v d hi hd).2⟩) ih
  | mark b df l hb ho _ ih => exact .mark b df l ((hm b hb ho).1.trans hb) (hm b hb ho).2 ih
theorem sumZ_two (f : Value → D → Nat) : ∀ (vs : List Value) (ds : List D) (i j : Nat) (v u : Value) (d e : D), i ≠ j → vs[i]? = some v → ds[i]? = some d → vs[j]? = some u → ds[j]? = some e → f v d + f u e ≤ sumZ f vs ds
  | [], _, _, _, _, _, _, _, _, h, _, _, _ => by simp at h
  | _ :: _, [], _, _, _, _, _, _, _, _, h, _, _ => by simp at h
  | a :: vs, b :: ds, 0, 0, _, _, _, _, h, _, _, _, _ => by omega
  | a :: vs, b :: ds, 0, j + 1, v, u, d, e, _, h1, h2, h3, h4 => by
    simp at h1 h2; subst h1; subst h2
    have := Zjk f vs ds j u e (by simpa using h3) (by simpa using h4)
    simp [sumZ]; omega
  | a :: vs, b :: ds, i + 1, 0, v, u, d, e, _, h1, h2, h3, h4 => by
    simp at h3 h4; subst h3; subst h4
    have := Zjk f vs ds i v d (by simpa using h1) (by simpa using h2)
    simp [sumZ]; omega
  | a :: vs, b :: ds, i + 1, j + 1, v, u, d, e, hij, h1, h2, h3, h4 => by
    have := sumZ_two f vs ds i j v u d e (by omega) (by simpa using h1) (by simpa using h2) (by simpa using h3) (by simpa using h4)
    simp [sumZ]; omega
def In0 (b j : Nat) (v : Value) (d : D) : Prop :=
  match v, d with
  | .slice (some a) n _, .osl ex _ sz _ => ex = true ∧ a.block = b ∧ a.off ≤ j ∧ j < a.off + n * sz
  | _, _ => False
def InA (b j : Nat) (v : Value) (d : D) : Prop :=
  match v, d with
  | .agg vs, .agg ds => ∃ (i : Nat) (v : Value) (d : D), vs[i]? = some v ∧ ds[i]? = some d ∧ In0 b j v d
  | v, d => In0 b j v d
theorem Zrq {b j : Nat} {v : Value} {d : D} (h : flat d = true) : InA b j v d ↔ In0 b j v d := by
  cases d <;> simp [flat] at h <;> (cases v <;> exact Iff.rfl)
section
variable {w : World} {G : Gh}
theorem Zuk {b j : Nat} {v : Value} {d : D} (h : RelD w G v d) (hi : In0 b j v d) : tok b v d = 1 := by
  unfold In0 at hi
  split at hi
  · rename_i a n cap ex fu sz es
    obtain ⟨h1, h2, h3, h4⟩ := hi
    subst h1
    cases h with
    | osl b o n cap sz es ex fu hn hc hfu h0 hsz hs =>
      refine if_pos ⟨h2, .inl ⟨rfl, fun e => ?_⟩⟩
      subst e; simp at hn; subst hn; simp at h4 h3; omega
  · exact hi.elim
theorem tokA_inA {b j : Nat} {v : Value} {d : D} (h : RelD w G v d) (hi : InA b j v d) : 0 < tokA b v d := by
  cases hf : flat d with
  | true => rw [Zrq hf] at hi; rw [Zkj hf, Zuk h hi]; exact Nat.one_pos
  | false =>
    cases d <;> simp [flat] at hf
    · rename_i ds
      cases h with
      | agg vs _ h1 ho hd =>
        obtain ⟨i, v, d, k1, k2, k3⟩ := hi
        have e := Zuk (hd i v d k1 k2) k3
        have := Zjk (tok b) vs.toList ds i v d (by simpa using k1) k2
        simp only [tokA]; omega
    · cases h with
      | tup vs _ h1 hd => exact hi.elim
theorem in0_cell {b j : Nat} {v : Value} {d : D} (h : RelD w G v d) (hl : Leaf0 w G.S v d) (hi : In0 b j v d) : (∃ u, w.cell? ⟨b, j, none⟩ = some u) ∧ ¬ G.S b j := by
  have ht := Zuk h hi
  unfold In0 at hi
  split at hi
  · rename_i a n cap ex fu sz es
    obtain ⟨h1, h2, h3, h4⟩ := hi
    subst h1; subst h2
    have hp : (true = true ∧ es ≠ []) ∨ n < cap := by
      by_cases e : (true = true ∧ es ≠ []) ∨ n < cap
      · exact e
      · have : tok a.block (.slice (some a) n cap) (.osl true fu sz es) = 0 := if_neg (fun x => e x.2)
        omega
    have k5' : True := trivial
    obtain ⟨k0, arr, elem, fz, k1, k2, k3, k4, k5⟩ := hl hp
    cases h with
    | osl b o n cap sz es ex fu hn hc hfu h0 hsz hs =>
      have : n * sz ≤ cap * sz := Nat.mul_le_mul_right _ hc
      have k6 := (k5 rfl).1 j h3
      simp only at h3 h4 k1 k2
      refine ⟨⟨arr[j]'(by omega), ?_⟩, k6⟩
      simp only [World.cell?, k1]
      simp [show j < arr.size by omega]
  · exact hi.elim
def Zni (G : Gh) (v : Value) (d : D) : Gh := { ob := G.ob, S := fun b j => G.S b j ∨ InA b j v d }
theorem Zu5 (v : Value) (d : D) : Later w G w (Zni G v d) := ⟨fun _ _ h => h, fun _ _ h => .inl h, fun _ _ _ => rfl⟩
theorem rel_kep0 {v : Value} {d : D} (h : RelD w G v d) (hl : Leaf0 w G.S v d) (V : Value) (Dd : D) (hin : ∀ b j, In0 b j v d → InA b j V Dd) : RelD w (Zni G V Dd) v (kep0 d) := by
  have hm := h.mono (Zu5 V Dd)
  cases d with
  | osl ex fu sz es =>
    cases ex with
    | false => exact hm
    | true =>
      cases h with
      | oslN _ _ _ => exact .oslN _ _ _
      | osl b o n cap _ _ _ _ hn hc hfu h0 hsz hs =>
        simp only [kep0]
        refine .osl b o n cap sz es false fu hn hc hfu h0 hsz (fun _ i r hi j x hj => ?_)
        have hne : es ≠ [] := fun e => by subst e; simp at hi
        obtain ⟨k0, arr, elem, fz, k1, k2, k3, k4, k5⟩ := hl (.inl ⟨rfl, hne⟩)
        obtain ⟨u, q1, q2⟩ := (k5 rfl).2 i r j x hi hj
        simp only at k1 q1
        have hil : i < es.length := (List.getElem?_eq_some_iff.1 hi).1
        have hjl : j < sz := by rw [← hsz r (Yaa hi)]; exact (List.getElem?_eq_some_iff.1 hj).1
        have hlt : i * sz + j < n * sz := by
          subst hn
          calc i * sz + j < i * sz + sz := by omega
            _ = (i + 1) * sz := by rw [Nat.succ_mul]
            _ ≤ es.length * sz := Nat.mul_le_mul_right _ hil
        refine ⟨.inr (hin _ _ ?_), u, ?_, q2.mono (fun _ _ h => .inl h) (fun _ _ _ => rfl)⟩
        · refine ⟨rfl, rfl, ?_, ?_⟩
          · show o ≤ o + i * sz + j; omega
          · show o + i * sz + j < o + n * sz; omega
        · simp only [World.cell?, k1]
          simpa using q1
  | _ => exact hm
theorem Zx8 {v : Value} {d : D} (hl : Leaf0 w G.S v d) (V : Value) (Dd : D)
    (hout : ∀ b j, 0 < tok b v d → InA b j V Dd → In0 b j v d) : Leaf0 w (Zni G V Dd).S v (kep0 d) := by
  cases d with
  | osl ex fu sz es =>
    simp only [kep0]
    unfold Leaf0 at hl ⊢
    split
    · rename_i a n cap ex' fu' sz' es' heq
      cases heq
      intro hc
      simp only [Bool.false_eq_true, false_and, false_or] at hc
      obtain ⟨k0, arr, elem, fz, k1, k2, k3, k4, k5⟩ := hl (.inr hc)
      refine ⟨k0, arr, elem, fz, k1, k2, k3, fun j hj hs => ?_, fun hx => by simp at hx⟩
      rcases hs with hs | hs
      · exact k4 j hj hs
      · have := hout a.block j (by simp only [tok]; rw [if_pos ⟨trivial, .inr hc⟩]; exact Nat.one_pos) hs
        simp only [In0] at this
        omega
    · trivial
  | _ => simp only [kep0]; unfold Leaf0; split <;> first | trivial | (rename_i heq; cases heq)
theorem Zrm {v : Value} {d : D} (h : RelD w G v (kep0 d)) : RelD w G v (shr0 d) := by
  cases d with
  | osl ex fu sz es =>
    cases fu with
    | true => exact h
    | false =>
      simp only [kep0] at h
      simp only [shr0]
      cases h with
      | oslN _ _ _ => exact .e _ _ .nilsl
      | osl b o n cap _ _ _ _ hn hc hfu h0 hsz hs =>
        subst hn
        rcases h0 with h0 | ⟨rfl, h0⟩
        · exact .e _ _ (RelE.of_rows hc h0 hsz (hs rfl))
        · exact .e _ _ (RelE.of_rows (sz := 1) (es := []) (by simp) (by omega) (by simp) (by simp))
  | _ => exact h
theorem Zvd (d : D) : own0 (shr0 d) = false := by
  cases d with
  | osl ex fu sz es => cases fu <;> rfl
  | _ => rfl
theorem tok_kep0 (b : Nat) (v : Value) (d : D) : tok b v (kep0 d) ≤ tok b v d := by
  cases d with
  | osl ex fu sz es =>
    simp only [kep0]
    unfold tok
    split
    · rename_i a n cap ex' fu' sz' es' heq
      cases heq
      simp only [Bool.false_eq_true, false_and, false_or]
      split
      · rename_i h; rw [if_pos ⟨h.1, .inr h.2⟩]; exact Yab _
      · omega
    · omega
  | _ => exact Yab _
end
section
variable {w : World} {G : Gh} {tm : List Value} {df : List Deferred} {pv : List Value} {pd : List D} {s : St}
theorem RelSt.toSeal {v : Value} {d : D} (h : RelSt w G tm df (v :: pv) (d :: pd) s) (hn : notTup d = true) :
    RelSt w (Zni G v d) tm df (v :: pv) (kep d :: pd) s ∧ Ext w G (cntS w G tm (v :: pv) (d :: pd) s) w (Zni G v d) (cntS w (Zni G v d) tm (v :: pv) (kep d :: pd) s) ∧
      RelD w (Zni G v d) v (shr d) ∧ ∀ b, tokT b v (shr d) = 0 := by
  obtain ⟨hr, hlf⟩ := h.P.head
  rw [Zdu hn] at hlf
  have hin : ∀ b j, InA b j v d → 0 < tokT b v d := fun b j hi => by rw [Zh0 hn]; exact tokA_inA hr hi
  have hSx : ∀ b j, (Zni G v d).S b j → G.S b j ∨ 0 < tokT b v d := fun b j hs => hs.imp id (hin b j)
  have key : RelD w (Zni G v d) v (kep d) ∧ LeafA w (Zni G v d).S v (kep d) ∧ (∀ b, tokA b v (kep d) ≤ tokA b v d) ∧ RelD w (Zni G v d) v (shr d) ∧ ∀ b, tokA b v (shr d) = 0 := by
    cases hf : flat d with
    | true =>
      have e1 : kep d = kep0 d := by cases d <;> simp_all [flat, kep]
      have e2 : shr d = shr0 d := by cases d <;> simp_all [flat, shr]
      have f1 : flat (kep0 d) = true := by cases d <;> simp_all [flat, kep0]
      have f2 : flat (shr0 d) = true := by
        cases d <;> simp_all [flat, shr0]
        rename_i ex fu sz es; cases fu <;> rfl
      have r1 := rel_kep0 hr ((Zfk hf).1 hlf) v d (fun b j hi => (Zrq hf).2 hi)
      rw [e1, e2]
      refine ⟨r1, (Zfk f1).2 (Zx8 ((Zfk hf).1 hlf) v d (fun b j _ hi => (Zrq hf).1 hi)), fun b => by rw [Zkj f1, Zkj hf]; exact tok_kep0 b v d, Zrm r1, fun b => ?_⟩
      rw [Zkj f2]; exact Zj4 (Zrm r1) (Zvd d)
    | false =>
      cases d <;> simp [flat] at hf
      · rename_i ds
        cases hr with
        | agg vs _ h1 ho hd =>
          have hone := h.one
          have r1 : ∀ (i : Nat) u e, vs[i]? = some u → ds[i]? = some e → RelD w (Zni G (.agg vs) (.agg ds)) u (kep0 e) := fun i u e hi he =>
            rel_kep0 (hd i u e hi he) (hlf i u e hi he) _ _ (fun b j hin => ⟨i, u, e, hi, he, hin⟩)
          refine ⟨.agg _ _ (by simpa using h1) ho (fun i u e hi he => ?_), fun i u e hi he => ?_, fun b => ?_, .agg _ _ (by simpa using h1) ho (fun i u e hi he => ?_), fun b => ?_⟩
          · simp at he; obtain ⟨e0, he0, rfl⟩ := he; exact r1 i u e0 hi he0
          · simp at he; obtain ⟨e0, he0, rfl⟩ := he
            refine Zx8 (hlf i u e0 hi he0) _ _ (fun b j ht hx => ?_)
            obtain ⟨i', u', e', q1, q2, q3⟩ := hx
            by_cases hii : i' = i
            · subst hii; rw [hi] at q1; rw [he0] at q2; cases q1; cases q2; exact q3
            · have t1 := Zuk (hd i' u' e' q1 q2) q3
              have := sumZ_two (tok b) vs.toList ds i' i u' u e' e0 hii (by simpa using q1) q2 (by simpa using hi) he0
              have := hone b
              simp only [sumZ, tokT, tokA] at this
              omega
          · simp only [kep, tokA]
            refine Zs4 _ _ _ _ _ (by simp) (fun i u e0 e1 hu he0 he1 => ?_)
            simp at he0; obtain ⟨e2, he2, rfl⟩ := he0
            rw [he1] at he2; cases he2
            exact tok_kep0 b u e1
          · simp at he; obtain ⟨e0, he0, rfl⟩ := he; exact Zrm (r1 i u e0 hi he0)
          · simp only [shr, tokA]
            refine Zhd _ _ _ (fun i u e hu he => ?_)
            simp at he; obtain ⟨e0, he0, rfl⟩ := he
            exact Zj4 (Zrm (r1 i u e0 (by simpa using hu) he0)) (Zvd e0)
      · simp [notTup] at hn
  obtain ⟨kr, kl, kt, ks, kz⟩ := key
  have nk : notTup (kep d) = true := by cases d <;> simp_all [notTup, kep, kep0]
  have ns : notTup (shr d) = true := by
    cases d <;> simp_all [notTup, shr, shr0]
    rename_i ex fu sz es; cases fu <;> rfl
  have hle : ∀ b, tokT b v (kep d) ≤ tokT b v d := fun b => by rw [Zh0 nk, Zh0 hn]; exact kt b
  have later := Zu5 (w := w) (G := G) v d
  refine ⟨{ L := ?_, P := ?_, len := h.len, nd := h.nd, obS := ?_, H := ?_, S := ?_, one := ?_, noob := ?_, dfr := ?_ }, ⟨later, Yab _, fun b hb => .inl hb, ?_, fun _ _ _ _ => rfl, ?_, rfl, rfl⟩, ks, fun b => by rw [Zh0 ns]; exact kz b⟩
  · refine h.L.keep later (fun b hb => ⟨rfl, fun j hs => ?_⟩)
    rcases hSx b j hs with h1 | h1
    · exact h1
    · have := h.one b; simp only [sumZ] at this; omega
  · refine (h.P.tail.keep later (fun b hb => ⟨rfl, fun j hs => ?_⟩)).cons kr ((Zdu nk).2 kl)
    rcases hSx b j hs with h1 | h1
    · exact h1
    · have := h.one b; simp only [sumZ] at this; omega
  · intro i b hb
    refine ⟨(h.obS i b hb).1, fun hd j hs => ?_⟩
    rcases hSx b j hs with h1 | h1
    · exact (h.obS i b hb).2 hd j h1
    · have := h.noob b (Yaa hb); simp only [sumZ] at this; omega
  · intro i b o hb ho
    refine (h.H i b o hb ho).keep later rfl (fun b' hb' => ⟨rfl, fun j hs => ?_⟩)
    rcases hSx b' j hs with h1 | h1
    · exact h1
    · have h2 := h.one b'
      have : Zg5 w b' b o ≤ hsum w b' G.ob s.h := by
        clear h2 h1 hs hb'
        have aux : ∀ (ob : List Nat) (hh : List O) (i : Nat), ob[i]? = some b → hh[i]? = some o → Zg5 w b' b o ≤ hsum w b' ob hh := by
          intro ob
          induction ob with
          | nil => intro hh i h1; simp at h1
          | cons x ob ih =>
            intro hh i h1 h2
            cases hh with
            | nil => simp at h2
            | cons y hh =>
              cases i with
              | zero => simp at h1 h2; subst h1; subst h2; simp [hsum]
              | succ i => have := ih hh i (by simpa using h1) (by simpa using h2); simp [hsum]; omega
        exact aux _ _ i hb ho
      simp only [sumZ] at h2; omega
  · intro b j hs
    rcases hs with hs | hs
    · exact h.S b j hs
    · cases hf : flat d with
      | true => exact (in0_cell hr ((Zfk hf).1 hlf) ((Zrq hf).1 hs)).1
      | false =>
        cases d <;> simp [flat] at hf
        · rename_i ds
          cases hr with
          | agg vs _ h1 ho hd =>
            obtain ⟨i, u, e, q1, q2, q3⟩ := hs
            exact (in0_cell (hd i u e q1 q2) (hlf i u e q1 q2) q3).1
        · simp [notTup] at hn
  · intro b; have := h.one b; have := hle b; simp only [sumZ, Zni] at *; omega
  · intro b hb; have := h.noob b hb; have := hle b; simp only [sumZ, Zni] at *; omega
  · exact h.dfr.keep later (fun b _ ho => ⟨rfl, ho⟩)
  · intro b hb h0 _ j hs
    rcases hSx b j hs with h1 | h1
    · exact h1
    · simp only [cntS, sumZ] at h0; omega
  · intro b _; have := hle b; simp only [cntS, sumZ, Zni]; omega
theorem Zsv (b' : Nat) {i b : Nat} {o : O} : ∀ (ob : List Nat) (hh : List O) (i : Nat), ob[i]? = some b → hh[i]? = some o → Zg5 w b' b o ≤ hsum w b' ob hh := by
  intro ob
  induction ob with
  | nil => intro hh i h1; simp at h1
  | cons x ob ih =>
    intro hh i h1 h2
    cases hh with
    | nil => simp at h2
    | cons y hh =>
      cases i with
      | zero => simp at h1 h2; subst h1; subst h2; simp [hsum]
      | succ i => have := ih hh i (by simpa using h1) (by simpa using h2); simp [hsum]; omega
theorem Zon (h : RelSt w G tm df pv pd s) {x : Operand} {d : D} {s1 : St} (hx : sh s x = some (d, s1)) :
    ∃ G', RelSt w G' tm df (ev tm x :: pv) (d :: pd) s1 ∧ (∀ b, tokT b (ev tm x) d = 0) ∧ Ext w G (cntS w G tm pv pd s) w G' (cntS w G' tm (ev tm x :: pv) (d :: pd) s1) ∧ s1.h = s.h ∧ s1.d = s.d ∧ s1.r = s.r := by
  cases x with
  | tmp t =>
    simp only [sh] at hx
    split at hx
    · rename_i ho
      split at hx
      · simp at hx
      · rename_i hnt
        simp at hx
        obtain ⟨rfl, rfl⟩ := hx
        have k := (h.slot t).1
        have hn : notTup (s.t.getD t Zaw) = true := by
          cases e : s.t.getD t Zaw <;> simp_all [notTup]
        have h1 := h.take (t := t) (Zsc k) (fun b => Zlc b k)
        obtain ⟨h2, h3, h4, h5⟩ := h1.toSeal hn
        have h6 := h2.put t
        rw [Zps] at h6
        have e : ({ ({ s with t := s.t.set t (Zlo (s.t.getD t Zaw)) } : St) with t := (s.t.set t (Zlo (s.t.getD t Zaw))).set t (kep (s.t.getD t Zaw)) } : St) = { s with t := s.t.set t (kep (s.t.getD t Zaw)) } := by simp
        rw [e] at h6
        refine ⟨_, h6.dup h4 h5, h5, ?_, rfl, rfl, rfl⟩
        refine h3.weaken (fun b => Nat.le_of_eq (Zof h t (fun b => Zlc b k) b)) (fun b hb => ?_)
        have q1 := h3.cnt b hb
        have q2 := Zof h t (fun b => Zlc b k) b
        have q3 := cnt_put (w := w) (G := Zni G (tm.getD t undef) (s.t.getD t Zaw)) (s := { s with t := s.t.set t (Zlo (s.t.getD t Zaw)) }) (pv := pv) (pd := pd) (v := tm.getD t undef) (d := kep (s.t.getD t Zaw)) (h2.L.len) t b
        rw [Zps, e] at q3
        have q4 := h5 b
        simp only [cntS, sumZ, ev, List.getD] at q1 q2 q3 q4 ⊢
        omega
    · rename_i ho
      simp at hx
      obtain ⟨rfl, rfl⟩ := hx
      have k := (h.slot t).1
      have z : ∀ b, tokT b (tm.getD t undef) (s.t.getD t Zaw) = 0 := fun b => Zhc k (by simpa using ho)
      refine ⟨G, h.dup k z, z, (Ext.refl w G _).weaken (fun _ => Yab _) (fun b _ => ?_), rfl, rfl, rfl⟩
      have := z b; simp only [cntS, sumZ, ev, List.getD] at this ⊢; omega
  | const v =>
    simp [sh] at hx
    obtain ⟨d', h1, rfl, rfl⟩ := hx
    obtain ⟨k, z⟩ := Zjp (w := w) (G := G) h1
    refine ⟨G, h.dup k z, z, (Ext.refl w G _).weaken (fun _ => Yab _) (fun b _ => ?_), rfl, rfl, rfl⟩
    have := z b; simp only [cntS, sumZ, ev] at this ⊢; omega
  | global g => simp [sh, rd] at hx
  | func f =>
    have k := Zh1 h (x := .func f) (d := .func (.func f) [] []) rfl
    simp [sh, rd] at hx
    obtain ⟨rfl, rfl⟩ := hx
    refine ⟨G, h.dup k (fun b => rfl), fun b => rfl, (Ext.refl w G _).weaken (fun _ => Yab _) (fun b _ => ?_), rfl, rfl, rfl⟩
    simp only [cntS, sumZ, ev, tokT, tokA, tok]; omega
end
end Go.Abs
namespace Go.Abs
section
variable {w : World} {G : Gh}
theorem Zha (w : World) (o : Obj) (b : Nat) : (w.alloc o).heap[b]? = if b = w.heap.size then some o else w.heap[b]? := by
  simp only [World.alloc, Array.getElem?_push]
theorem Zfw (w : World) (o : Obj) {b : Nat} (h : b < w.heap.size) : (w.alloc o).heap[b]? = w.heap[b]? := by
  rw [Zha, if_neg (by omega)]
theorem Zik {w : World} {b : Nat} {o : Obj} (h : w.heap[b]? = some o) : b < w.heap.size := (Array.getElem?_eq_some_iff.1 h).1
theorem tok_lt {b : Nat} {v : Value} {d : D} (hl : Leaf0 w G.S v d) (ht : 0 < tok b v d) : b < w.heap.size ∧ ∃ arr e fz, w.heap[b]? = some (.cells arr e fz) := by
  unfold tok at ht
  split at ht
  · rename_i a n cap ex fu sz es
    split at ht
    · rename_i hc
      obtain ⟨_, arr, elem, fz, h1, _⟩ := hl hc.2
      rw [hc.1] at h1
      exact ⟨Zik h1, arr, elem, fz, h1⟩
    · omega
  · omega
theorem Zpo (f : Value → D → Nat) : ∀ (vs : List Value) (ds : List D), 0 < sumZ f vs ds → ∃ (i : Nat) (v : Value) (d : D), vs[i]? = some v ∧ ds[i]? = some d ∧ 0 < f v d
  | [], _, h => by simp [sumZ] at h
  | _ :: _, [], h => by simp [sumZ] at h
  | v :: vs, d :: ds, h => by
    by_cases h0 : 0 < f v d
    · exact ⟨0, v, d, rfl, rfl, h0⟩
    · simp only [sumZ] at h
      obtain ⟨i, v', d', h1, h2, h3⟩ := Zpo f vs ds (by omega)
      exact ⟨i + 1, v', d', by simpa using h1, by simpa using h2, h3⟩
theorem tokA_lt {b : Nat} {v : Value} {d : D} (hl : LeafA w G.S v d) (ht : 0 < tokA b v d) : b < w.heap.size ∧ ∃ arr e fz, w.heap[b]? = some (.cells arr e fz) := by
  unfold tokA at ht
  split at ht
  · rename_i vs ds
    obtain ⟨i, v, d, h1, h2, h3⟩ := Zpo _ _ _ ht
    exact tok_lt (hl i v d (by simpa using h1) h2) h3
  · rename_i h'
    unfold LeafA at hl; split at hl
    · exact absurd rfl (h' _ _ rfl)
    · exact tok_lt hl ht
theorem tokT_lt {b : Nat} {v : Value} {d : D} (hl : LeafT w G.S v d) (ht : 0 < tokT b v d) : b < w.heap.size ∧ ∃ arr e fz, w.heap[b]? = some (.cells arr e fz) := by
  unfold tokT at ht
  split at ht
  · rename_i vs ds
    obtain ⟨i, v, d, h1, h2, h3⟩ := Zpo _ _ _ ht
    exact tokA_lt (hl i v d (by simpa using h1) h2) h3
  · rename_i h'
    unfold LeafT at hl; split at hl
    · exact absurd rfl (h' _ _ rfl)
    · exact tokA_lt hl ht
theorem RelL.tok_lt {vs : List Value} {ds : List D} {b : Nat} (h : RelL w G vs ds) (ht : 0 < sumZ (tokT b) vs ds) : b < w.heap.size ∧ ∃ arr e fz, w.heap[b]? = some (.cells arr e fz) := by
  obtain ⟨i, v, d, h1, h2, h3⟩ := Zpo _ _ _ ht
  exact tokT_lt (h.leaf i v d h1 h2) h3
theorem hsum_pos {b : Nat} : ∀ (ob : List Nat) (hh : List O), 0 < hsum w b ob hh → ∃ (i bi : Nat) (o : O), ob[i]? = some bi ∧ hh[i]? = some o ∧ 0 < Zg5 w b bi o
  | [], _, h => by simp [hsum] at h
  | _ :: _, [], h => by simp [hsum] at h
  | bi :: ob, o :: hh, h => by
    by_cases h0 : 0 < Zg5 w b bi o
    · exact ⟨0, bi, o, rfl, rfl, h0⟩
    · have h' : 0 < Zg5 w b bi o + hsum w b ob hh := h
      have h'' : 0 < hsum w b ob hh := by omega
      obtain ⟨i, b', o', h1, h2, h3⟩ := hsum_pos ob hh h''
      exact ⟨i + 1, b', o', by simpa using h1, by simpa using h2, h3⟩
theorem RelO.tok_lt {b bi : Nat} {o : O} (h : RelO w G bi o) (ht : 0 < Zg5 w b bi o) : b < w.heap.size ∧ ∃ arr e fz, w.heap[b]? = some (.cells arr e fz) := by
  cases o with
  | cells cs =>
    obtain ⟨arr, elem, fz, h1, h2, h3, h4, h5⟩ := h
    simp only [Zg5, h1] at ht
    obtain ⟨i, v, d, k1, k2, k3⟩ := Zpo _ _ _ ht
    exact Abs.tok_lt (h5 i v d (by simpa using k1) k2).2 k3
  | map es => simp [Zg5] at ht
  | loop st pd fn env ps asg body => simp [Zg5] at ht
  | dead => simp [Zg5] at ht
theorem Zim {w w' : World} {b : Nat} : ∀ (ob : List Nat) (hh : List O), (∀ (i bi : Nat) (o : O), ob[i]? = some bi → hh[i]? = some o → Zg5 w' b bi o = Zg5 w b bi o) → hsum w' b ob hh = hsum w b ob hh
  | [], _, _ => by simp [hsum]
  | _ :: _, [], _ => by simp [hsum]
  | bi :: ob, o :: hh, h => by
    have h0 := h 0 bi o rfl rfl
    have := Zim ob hh (fun i b' o' h1 h2 => h (i + 1) b' o' (by simpa using h1) (by simpa using h2))
    simp [hsum, h0, this]
theorem Zht {w w' : World} {b bi : Nat} {o : O} (h : w'.heap[bi]? = w.heap[bi]?) : Zg5 w' b bi o = Zg5 w b bi o := by
  cases o <;> simp [Zg5, h]
theorem Zsw (b : Nat) : ∀ (ob : List Nat) (hh : List O) (bi : Nat) (o : O), ob.length = hh.length → hsum w b (ob ++ [bi]) (hh ++ [o]) = hsum w b ob hh + Zg5 w b bi o
  | [], [], _, _, _ => by simp [hsum]
  | [], _ :: _, _, _, h => by simp at h
  | _ :: _, [], _, _, h => by simp at h
  | x :: ob, y :: hh, bi, o, h => by
    have := Zsw b ob hh bi o (by simpa using h)
    simp [hsum, this]; omega
theorem Zqe (b : Nat) : ∀ (ob : List Nat) (hh : List O) (i bi : Nat) (o o0 : O), ob[i]? = some bi → hh[i]? = some o0 → hsum w b ob (hh.set i o) + Zg5 w b bi o0 = hsum w b ob hh + Zg5 w b bi o
  | [], _, _, _, _, _, h, _ => by simp at h
  | _ :: _, [], _, _, _, _, _, h => by simp at h
  | x :: ob, y :: hh, 0, bi, o, o0, h1, h2 => by simp at h1 h2; subst h1; subst h2; simp [hsum]; omega
  | x :: ob, y :: hh, i + 1, bi, o, o0, h1, h2 => by
    have := Zqe b ob hh i bi o o0 (by simpa using h1) (by simpa using h2)
    simp [hsum]; omega
end
section
variable {w : World} {G : Gh} {tm : List Value} {df : List Deferred} {pv : List Value} {pd : List D} {s : St}
theorem RelSt.hsum_lt (h : RelSt w G tm df pv pd s) {b : Nat} (ht : 0 < hsum w b G.ob s.h) : b < w.heap.size ∧ ∃ arr e fz, w.heap[b]? = some (.cells arr e fz) := by
  obtain ⟨i, bi, o, h1, h2, h3⟩ := hsum_pos _ _ ht
  exact (h.H i bi o h1 h2).tok_lt h3
theorem RelSt.cnt_lt (h : RelSt w G tm df pv pd s) {b : Nat} (ht : 0 < cntS w G tm pv pd s b) : b < w.heap.size ∧ ∃ arr e fz, w.heap[b]? = some (.cells arr e fz) := by
  by_cases h1 : 0 < sumZ (tokT b) tm s.t
  · exact h.L.tok_lt h1
  by_cases h2 : 0 < sumZ (tokT b) pv pd
  · exact h.P.tok_lt h2
  · exact h.hsum_lt (by simp only [cntS] at ht; omega)
theorem RelSt.S_lt (h : RelSt w G tm df pv pd s) {b j : Nat} (hs : G.S b j) : b < w.heap.size := by
  obtain ⟨v, hv⟩ := h.S b j hs
  exact World.block_lt_of_cell? (a := ⟨b, j, none⟩) w hv
theorem RelSt.world {w' : World} (h : RelSt w G tm df pv pd s) (hb : ∀ b, b < w.heap.size → w'.heap[b]? = w.heap[b]?) (hz : w.heap.size ≤ w'.heap.size) (hwo : w'.os = w.os ∧ w'.output = w.output) :
    RelSt w' G tm df pv pd s ∧ Ext w G (cntS w G tm pv pd s) w' G (cntS w' G tm pv pd s) := by
  have hcell : ∀ b j, G.S b j → w'.cell? ⟨b, j, none⟩ = w.cell? ⟨b, j, none⟩ := fun b j hs => by simp only [World.cell?, hb b (h.S_lt hs)]
  have later : Later w G w' G := ⟨fun _ _ h => h, fun _ _ h => h, hcell⟩
  have hh : ∀ b, hsum w' b G.ob s.h = hsum w b G.ob s.h := fun b => Zim _ _ (fun i bi o h1 h2 => Zht (hb bi (h.ob_lt (Yaa h1))))
  refine ⟨{ L := ?_, P := ?_, len := h.len, nd := h.nd, obS := ?_, H := ?_, S := ?_, one := ?_, noob := ?_, dfr := ?_ }, later, hz, fun b hb => .inl hb, fun _ _ _ _ _ hs => hs, fun b hlt _ _ => hb b hlt, fun b _ => ?_, hwo⟩
  · exact h.L.keep later (fun b ht => ⟨hb b (h.L.tok_lt ht).1, fun _ hs => hs⟩)
  · exact h.P.keep later (fun b ht => ⟨hb b (h.P.tok_lt ht).1, fun _ hs => hs⟩)
  · exact fun i b hb' => ⟨Nat.lt_of_lt_of_le (h.obS i b hb').1 hz, (h.obS i b hb').2⟩
  · intro i b o h1 h2
    exact (h.H i b o h1 h2).keep later (hb b (h.obS i b h1).1) (fun b' ht => ⟨hb b' ((h.H i b o h1 h2).tok_lt ht).1, fun _ hs => hs⟩)
  · intro b j hs; obtain ⟨v, hv⟩ := h.S b j hs; exact ⟨v, (hcell b j hs).trans hv⟩
  · intro b; rw [hh b]; exact h.one b
  · intro b hb'; rw [hh b]; exact h.noob b hb'
  · exact h.dfr.keep later (fun b h1 h2 => ⟨hb b (Zik h1), h2⟩)
  · simp only [cntS, hh b]; exact Yab _
theorem RelSt.alloc (h : RelSt w G tm df pv pd s) (o : Obj) :
    RelSt (w.alloc o) G tm df pv pd s ∧ Ext w G (cntS w G tm pv pd s) (w.alloc o) G (cntS (w.alloc o) G tm pv pd s) :=
  h.world (fun _ hb => Zfw w o hb) (by simp) ⟨rfl, rfl⟩
theorem RelSt.drew (h : RelSt w G tm df pv pd s) : RelSt w.drew G tm df pv pd s ∧ Ext w G (cntS w G tm pv pd s) w.drew G (cntS w.drew G tm pv pd s) :=
  h.world (fun _ _ => rfl) (Yab _) ⟨rfl, rfl⟩
theorem RelSt.addObj {v : Value} {d : D} (h : RelSt w G tm df (v :: pv) (d :: pd) s) {b : Nat} {o : O} (hb : b < w.heap.size) (ho : b ∉ G.ob) (hS : ∀ j, ¬ G.S b j)
    (hc : cntS w G tm (v :: pv) (d :: pd) s b = 0) (hr : RelO w { ob := G.ob ++ [b], S := G.S } b o) (ht : ∀ b', Zg5 w b' b o ≤ tokT b' v d)
    (hm : ∀ b', w.heap[b']? = some (.deferred (some [])) → b' ≠ b) :
    RelSt w { ob := G.ob ++ [b], S := G.S } tm df pv pd { s with h := s.h ++ [o] } ∧
      (∀ b', cntS w { ob := G.ob ++ [b], S := G.S } tm pv pd { s with h := s.h ++ [o] } b' ≤ cntS w G tm (v :: pv) (d :: pd) s b') ∧
      Later w G w { ob := G.ob ++ [b], S := G.S } := by
  have later : Later w G w { ob := G.ob ++ [b], S := G.S } := ⟨fun i b' hi => by
    have := (List.getElem?_eq_some_iff.1 hi).1
    simp only; rw [Ya7 this]; exact hi, fun _ _ h => h, fun _ _ _ => rfl⟩
  have hs : ∀ b', hsum w b' (G.ob ++ [b]) (s.h ++ [o]) = hsum w b' G.ob s.h + Zg5 w b' b o := fun b' => Zsw b' _ _ _ _ h.len
  refine ⟨{ L := ?_, P := ?_, len := ?_, nd := ?_, obS := ?_, H := ?_, S := h.S, one := ?_, noob := ?_, dfr := ?_ }, ?_, later⟩
  · exact h.L.keep later (fun b _ => ⟨rfl, fun _ hs => hs⟩)
  · exact h.P.tail.keep later (fun b _ => ⟨rfl, fun _ hs => hs⟩)
  · simp [h.len]
  · simp only
    rw [List.nodup_append]
    refine ⟨h.nd, by simp, fun x hx y hy e => ?_⟩
    simp at hy; subst hy; subst e; exact ho hx
  · intro i b' hb'
    simp only at hb'
    by_cases hi : i < G.ob.length
    · rw [Ya7 hi] at hb'
      simp only
      rw [Ya7 (by rw [← h.len]; exact hi)]
      exact h.obS i b' hb'
    · rw [Ya8 (by omega)] at hb'
      have := Yaa hb'
      simp only [List.mem_singleton] at this
      subst this
      exact ⟨hb, fun _ => hS⟩
  · intro i b' o' h1 h2
    simp only at h1 h2
    by_cases hi : i < G.ob.length
    · rw [Ya7 hi] at h1
      rw [Ya7 (by rw [← h.len]; exact hi)] at h2
      exact (h.H i b' o' h1 h2).keep later rfl (fun _ _ => ⟨rfl, fun _ hs => hs⟩)
    · rw [Ya8 (by omega)] at h1
      rw [Ya8 (by have := h.len; omega), ← h.len] at h2
      have : i - G.ob.length = 0 := by
        have := (List.getElem?_eq_some_iff.1 h1).1; simp at this; omega
      rw [this] at h1 h2
      simp at h1 h2; subst h1; subst h2; exact hr
  · intro b'
    have h1 := h.one b'; have h2 := ht b'
    simp only [sumZ, hs] at *; omega
  · intro b' hb'
    simp only [List.mem_append, List.mem_singleton] at hb'
    have h2 := ht b'
    rcases hb' with hb' | rfl
    · have h1 := h.noob b' hb'
      simp only [sumZ, hs] at *; omega
    · simp only [cntS, sumZ, hs] at *; omega
  · exact h.dfr.keep later (fun b' h1 h2 => ⟨rfl, by
      simp only [List.mem_append, List.mem_singleton]
      rintro (h3 | h3)
      · exact h2 h3
      · exact hm b' h1 h3⟩)
  · intro b'
    have h2 := ht b'
    simp only [cntS, sumZ, hs]; omega
theorem Zn1 (h : RelSt w G tm df pv pd s) (j : Nat) : ¬ G.S w.heap.size j := fun hs => by have := h.S_lt hs; omega
theorem Zns (h : RelSt w G tm df pv pd s) : w.heap.size ∉ G.ob := fun hb => by have := h.ob_lt hb; omega
theorem Zxn (h : RelSt w G tm df pv pd s) : cntS w G tm pv pd s w.heap.size = 0 := by
  by_cases h0 : 0 < cntS w G tm pv pd s w.heap.size
  · have := (h.cnt_lt h0).1; omega
  · omega
theorem Zkp {v : Value} {d : D} (h : RelD w G v d) (hn : notTup d = true) : v.cells.size = (cellsOf d).length ∧ ∀ u ∈ v.cells.toList, u.oneCell' = true := by
  cases hf : flat d with
  | true =>
    have h1 := h.one hf
    have e : v.cells = #[v] := by cases v <;> simp_all [Value.oneCell', Value.cells]
    have e2 : cellsOf d = [d] := by cases d <;> simp_all [flat, cellsOf]
    rw [e, e2]; exact ⟨rfl, fun u hu => by simp at hu; subst hu; exact h1⟩
  | false =>
    cases d <;> simp [flat] at hf
    · cases h with
      | agg vs ds h1 ho hd => exact ⟨h1, ho⟩
    · simp [notTup] at hn
theorem Zo2 {v : Value} {d : D} (h : RelD w G v d) (hl : LeafT w G.S v d) (hn : notTup d = true) : ∀ (i : Nat) u e, v.cells[i]? = some u → (cellsOf d)[i]? = some e → RelD w G u e ∧ Leaf0 w G.S u e := by
  rw [Zdu hn] at hl
  cases hf : flat d with
  | true =>
    have h1 := h.one hf
    have e : v.cells = #[v] := by cases v <;> simp_all [Value.oneCell', Value.cells]
    have e2 : cellsOf d = [d] := by cases d <;> simp_all [flat, cellsOf]
    rw [Zfk hf] at hl
    rw [e, e2]
    intro i u x hu hx
    cases i with
    | zero => simp at hu hx; subst hu; subst hx; exact ⟨h, hl⟩
    | succ i => simp at hu
  | false =>
    cases d <;> simp [flat] at hf
    · cases h with
      | agg vs ds h1 ho hd => exact fun i u e hu he => ⟨hd i u e hu he, hl i u e hu he⟩
    · simp [notTup] at hn
theorem Zo1 {v : Value} {d : D} (h : RelD w G v d) (hn : notTup d = true) (b : Nat) : sumZ (tok b) v.cells.toList (cellsOf d) = tokT b v d := by
  rw [Zh0 hn]
  cases hf : flat d with
  | true =>
    have h1 := h.one hf
    have e : v.cells = #[v] := by cases v <;> simp_all [Value.oneCell', Value.cells]
    have e2 : cellsOf d = [d] := by cases d <;> simp_all [flat, cellsOf]
    rw [e, e2, Zkj hf]; simp [sumZ]
  | false =>
    cases d <;> simp [flat] at hf
    · cases h with
      | agg vs ds h1 ho hd => rfl
    · simp [notTup] at hn
theorem RelSt.newVar {v : Value} {d : D} (h : RelSt w G tm df (v :: pv) (d :: pd) s) (hn : notTup d = true) (t : TypeId) :
    ∃ G', RelSt (w.alloc (.cells v.cells t)) G' tm df (.pointer (some ⟨w.heap.size, 0, none⟩) :: pv) (.ptr s.h.length 0 :: pd) { s with h := s.h ++ [.cells (cellsOf d)] } ∧
      Ext w G (cntS w G tm (v :: pv) (d :: pd) s) (w.alloc (.cells v.cells t)) G' (cntS (w.alloc (.cells v.cells t)) G' tm (.pointer (some ⟨w.heap.size, 0, none⟩) :: pv) (.ptr s.h.length 0 :: pd) { s with h := s.h ++ [.cells (cellsOf d)] }) := by
  obtain ⟨h1, h2⟩ := h.alloc (.cells v.cells t)
  obtain ⟨k1, k2⟩ := h1.P.head
  have hblk : (w.alloc (.cells v.cells t)).heap[w.heap.size]? = some (.cells v.cells t) := by rw [Zha, if_pos rfl]
  have hfr := Zxn h
  have hc0 : cntS (w.alloc (.cells v.cells t)) G tm (v :: pv) (d :: pd) s w.heap.size = 0 := by
    by_cases h0 : 0 < cntS (w.alloc (.cells v.cells t)) G tm (v :: pv) (d :: pd) s w.heap.size
    · simp only [cntS] at h0 hfr
      rw [Zim (w := w) (w' := w.alloc (.cells v.cells t)) _ _ (fun i bi o h1 h2 => Zht (Zfw w _ (h.ob_lt (Yaa h1))))] at h0
      omega
    · omega
  obtain ⟨k3, k4, k5⟩ := h1.addObj (b := w.heap.size) (o := .cells (cellsOf d)) (by simp) (Zns h) (Zn1 h) hc0
    ⟨v.cells, t, (0, 0), hblk, fun j hj => by simp only [World.frozen?, hblk]; simp, Nat.le_of_eq (Zkp k1 hn).1.symm, fun i u _ hu => (Zkp k1 hn).2 u (Array.mem_toList_iff.2 (Array.mem_of_getElem? hu)), fun i u e hu he => by
      obtain ⟨q1, q2⟩ := Zo2 k1 k2 hn i u e hu he
      have later : Later (w.alloc (.cells v.cells t)) G (w.alloc (.cells v.cells t)) { ob := G.ob ++ [w.heap.size], S := G.S } := ⟨fun i b' hi => by
        have := (List.getElem?_eq_some_iff.1 hi).1
        simp only; rw [Ya7 this]; exact hi, fun _ _ h => h, fun _ _ _ => rfl⟩
      exact ⟨q1.mono later, q2⟩⟩
    (fun b' => by simp only [Zg5, hblk]; rw [Zo1 k1 hn]; exact Yab _)
    (fun b' hb' e => by subst e; rw [hblk] at hb'; cases hb')
  refine ⟨_, k3.dup (.ptr _ _ w.heap.size ?_) (fun b => rfl), ?_⟩
  · simp only; rw [← h.len, Ya8 (Yab _)]; simp
  · refine ⟨h2.later.trans k5, h2.size, fun b hb => ?_, fun b _ _ _ j hs => hs, fun b hb _ _ => Zfw w _ hb, fun b hb => ?_, rfl, rfl⟩
    · simp only [List.mem_append, List.mem_singleton] at hb
      exact hb.imp id (fun e => .inl (by subst e; exact Yab _))
    · have q1 := k4 b
      have q2 := h2.cnt b hb
      have q3 : tokT b (.pointer (some ⟨w.heap.size, 0, none⟩)) (.ptr s.h.length 0) = 0 := rfl
      simp only [cntS, sumZ] at q1 q2 ⊢
      omega
end
end Go.Abs
namespace Go.Abs
theorem Zs9 (w : World) (b : Nat) : ∀ (o : Nat) (vs : List Value), (w.setCells b o vs).os = w.os ∧ (w.setCells b o vs).output = w.output := by
  intro o vs
  induction vs generalizing w o with
  | nil => exact ⟨rfl, rfl⟩
  | cons v vs ih => exact ih (w.setCell ⟨b, o, none⟩ v) (o + 1)
def Ziy {α : Type} (l : List α) (off : Nat) (new : List α) : List α := l.take off ++ new ++ l.drop (off + new.length)
theorem Zfd {α : Type} (l new : List α) (off : Nat) (h : off + new.length ≤ l.length) (i : Nat) :
    (Ziy l off new)[i]? = if i < off then l[i]? else if i < off + new.length then new[i - off]? else l[i]? := by
  unfold Ziy
  have hl : (l.take off).length = off := by simp; omega
  by_cases h1 : i < off
  · rw [if_pos h1, List.append_assoc, Ya7 (by omega), List.getElem?_take, if_pos h1]
  · rw [if_neg h1]
    by_cases h2 : i < off + new.length
    · rw [if_pos h2, Ya7 (by simp; omega), Ya8 (by omega), hl]
    · rw [if_neg h2, Ya8 (by simp; omega), List.getElem?_drop]
      congr 1; simp; omega
theorem Zgl {α : Type} (l new : List α) (off : Nat) (h : off + new.length ≤ l.length) : (Ziy l off new).length = l.length := by
  simp [Ziy]; omega
theorem Zg2 (cs : List D) (off : Nat) (new : List D) : Zfg cs off new = Ziy cs off new := rfl
theorem sumZ_three (f : Value → D → Nat) (l : List Value) (cs : List D) (off n : Nat) (hl : cs.length ≤ l.length) (ho : off + n ≤ cs.length) :
    sumZ f l cs = sumZ f (l.take off) (cs.take off) + sumZ f ((l.drop off).take n) ((cs.drop off).take n) + sumZ f (l.drop (off + n)) (cs.drop (off + n)) := by
  have e1 : l = l.take off ++ ((l.drop off).take n ++ l.drop (off + n)) := by
    rw [show l.drop (off + n) = (l.drop off).drop n from by simp [List.drop_drop], List.take_append_drop, List.take_append_drop]
  have e2 : cs = cs.take off ++ ((cs.drop off).take n ++ cs.drop (off + n)) := by
    rw [show cs.drop (off + n) = (cs.drop off).drop n from by simp [List.drop_drop], List.take_append_drop, List.take_append_drop]
  have h1 : (l.take off).length = (cs.take off).length := by simp; omega
  have h2 : ((l.drop off).take n).length = ((cs.drop off).take n).length := by simp; omega
  calc sumZ f l cs = sumZ f (l.take off ++ ((l.drop off).take n ++ l.drop (off + n))) (cs.take off ++ ((cs.drop off).take n ++ cs.drop (off + n))) := by rw [← e1, ← e2]
    _ = _ := by rw [Zgo f _ _ _ _ h1, Zgo f _ _ _ _ h2]; omega
theorem Zou (f : Value → D → Nat) (l new : List Value) (cs ds : List D) (off : Nat) (hl : cs.length ≤ l.length) (hn : new.length = ds.length) (ho : off + ds.length ≤ cs.length) :
    sumZ f (Ziy l off new) (Ziy cs off ds) + sumZ f ((l.drop off).take new.length) ((cs.drop off).take new.length) = sumZ f l cs + sumZ f new ds := by
  have h1 : (l.take off).length = (cs.take off).length := by simp; omega
  rw [sumZ_three f l cs off new.length hl (by omega)]
  unfold Ziy
  rw [List.append_assoc, List.append_assoc, Zgo f _ _ _ _ h1, Zgo f _ _ _ _ hn, hn]
  omega
theorem Zli {α : Type} (l : List α) (off n : Nat) (h : off + n ≤ l.length) : Ziy l off ((l.drop off).take n) = l := by
  apply List.ext_getElem?; intro i
  have hn : ((l.drop off).take n).length = n := by simp; omega
  rw [Zfd _ _ _ (by omega), hn]
  split
  · rfl
  · split
    · rw [List.getElem?_take, if_pos (by omega), List.getElem?_drop]; congr 1; omega
    · rfl
theorem Znt {α : Type} : ∀ {l : List α} {i j : Nat} {a : α}, l.Nodup → l[i]? = some a → l[j]? = some a → i = j
  | [], _, _, _, _, h, _ => by simp at h
  | x :: l, 0, 0, a, _, _, _ => rfl
  | x :: l, 0, j + 1, a, nd, h1, h2 => by
    simp at h1 h2; subst h1
    exact absurd (Yaa h2) (List.nodup_cons.1 nd).1
  | x :: l, i + 1, 0, a, nd, h1, h2 => by
    simp at h1 h2; subst h2
    exact absurd (Yaa h1) (List.nodup_cons.1 nd).1
  | x :: l, i + 1, j + 1, a, nd, h1, h2 => by
    have := Znt (List.nodup_cons.1 nd).2 (i := i) (j := j) (by simpa using h1) (by simpa using h2)
    omega
theorem Zmr (b : Nat) : ∀ (vs : List Value) (o : Nat) (w : World) (arr : Array Value) (elem : TypeId) (fz : Nat × Nat), w.heap[b]? = some (.cells arr elem fz) → o + vs.length ≤ arr.size →
    (∃ arr', (w.setCells b o vs).heap[b]? = some (.cells arr' elem fz) ∧ arr'.toList = Ziy arr.toList o vs) ∧ (∀ b', b' ≠ b → (w.setCells b o vs).heap[b']? = w.heap[b']?) ∧ (w.setCells b o vs).heap.size = w.heap.size
  | [], o, w, arr, elem, fz, h, _ => by
    refine ⟨⟨arr, h, ?_⟩, fun _ _ => rfl, rfl⟩
    simp [Ziy]
  | v :: vs, o, w, arr, elem, fz, h, hl => by
    simp only [List.length_cons] at hl
    have h1 : (w.setCell ⟨b, o, none⟩ v).heap[b]? = some (.cells (arr.setIfInBounds o v) elem fz) := by
      simp only [World.setCell, Array.getElem?_modify, if_true, h]; rfl
    obtain ⟨⟨arr', k1, k2⟩, k3, k4⟩ := Zmr b vs (o + 1) (w.setCell ⟨b, o, none⟩ v) _ elem fz h1 (by simp; omega)
    refine ⟨⟨arr', k1, ?_⟩, fun b' hb => (k3 b' hb).trans ?_, k4.trans (by simp)⟩
    · rw [k2, show (arr.setIfInBounds o v).toList = arr.toList.set o v from by simp]
      have hz : arr.toList.length = arr.size := by simp
      apply List.ext_getElem?; intro i
      rw [Zfd _ _ _ (by simp; omega), Zfd _ _ _ (by simp; omega)]
      simp only [List.length_cons]
      by_cases h1 : i < o
      · rw [if_pos (by omega), if_pos h1, Ya9 (by omega)]
      · rw [if_neg h1]
        by_cases h2 : i = o
        · subst h2
          rw [if_pos (by omega), if_pos (by omega), List.getElem?_set_self (by omega)]
          simp
        · rw [if_neg (by omega)]
          by_cases h3 : i < o + 1 + vs.length
          · rw [if_pos h3, if_pos (by omega), show i - o = (i - (o + 1)) + 1 by omega]; simp
          · rw [if_neg h3, if_neg (by omega), Ya9 (by omega)]
    · simp only [World.setCell, Array.getElem?_modify]
      rw [if_neg (by simpa using fun e => hb e.symm)]
section
variable {w : World} {G : Gh} {tm : List Value} {df : List Deferred} {pv : List Value} {pd : List D} {s : St}
theorem Zio {h : List O} {i : Nat} {cs : List D} (hg : Zbn h i = some cs) : h[i]? = some (.cells cs) := by
  unfold Zbn at hg
  split at hg
  · rename_i h1; simp at hg; subst hg; exact h1
  · simp at hg
theorem RelSt.reCells {v v' : Value} {d d' : D} (h : RelSt w G tm df (v :: pv) (d :: pd) s) {i b : Nat} {cs cs' : List D} (hi : s.h[i]? = some (.cells cs)) (hb : G.ob[i]? = some b)
    {arr : Array Value} {elem : TypeId} {fz : Nat × Nat} (ha : w.heap[b]? = some (.cells arr elem fz)) (hl : cs'.length = cs.length)
    (hr : ∀ (k : Nat) u e, arr[k]? = some u → cs'[k]? = some e → RelD w G u e ∧ Leaf0 w G.S u e)
    (hr' : RelD w G v' d' ∧ LeafT w G.S v' d')
    (ht : ∀ b', sumZ (tok b') arr.toList cs' + tokT b' v' d' ≤ sumZ (tok b') arr.toList cs + tokT b' v d) :
    RelSt w G tm df (v' :: pv) (d' :: pd) { s with h := s.h.set i (.cells cs') } ∧ ∀ b', cntS w G tm (v' :: pv) (d' :: pd) { s with h := s.h.set i (.cells cs') } b' ≤ cntS w G tm (v :: pv) (d :: pd) s b' := by
  have hs : ∀ b', hsum w b' G.ob (s.h.set i (.cells cs')) + sumZ (tok b') arr.toList cs = hsum w b' G.ob s.h + sumZ (tok b') arr.toList cs' := by
    intro b'
    have := Zqe (w := w) b' G.ob s.h i b (.cells cs') _ hb hi
    simpa only [Zg5, ha] using this
  refine ⟨{ L := h.L, P := h.P.tail.cons hr'.1 hr'.2, len := by simp [h.len], nd := h.nd, obS := fun j b' hb' => ⟨(h.obS j b' hb').1, fun hd => (h.obS j b' hb').2 (fun e => by
    by_cases hij : i = j
    · subst hij; rw [hi] at e; cases e
    · exact hd (by simp only; rw [Ya9 hij]; exact e))⟩, H := ?_, S := h.S, one := ?_, noob := ?_, dfr := h.dfr }, fun b' => ?_⟩
  · intro j bj o h1 h2
    by_cases e : i = j
    · subst e
      simp only at h2
      rw [List.getElem?_set] at h2
      simp at h2
      obtain ⟨_, rfl⟩ := h2
      rw [hb] at h1; cases h1
      obtain ⟨arr2, elem2, fz2, q1, q2, q3, q4, _⟩ := h.H i b _ hb hi
      rw [ha] at q1; cases q1
      exact ⟨arr, elem, fz, ha, q2, by omega, fun k u hk => q4 k u (by omega), hr⟩
    · simp only at h2
      rw [Ya9 e] at h2
      exact h.H j bj o h1 h2
  · intro b'
    have h1 := h.one b'; have h2 := hs b'; have h3 := ht b'
    simp only [sumZ] at *; omega
  · intro b' hb'
    have h1 := h.noob b' hb'; have h2 := hs b'; have h3 := ht b'
    simp only [sumZ] at *; omega
  · have h2 := hs b'; have h3 := ht b'
    simp only [cntS, sumZ] at *; omega
theorem RelSt.cells (h : RelSt w G tm df pv pd s) {i : Nat} {cs : List D} (hi : s.h[i]? = some (.cells cs)) :
    ∃ b arr elem fz, G.ob[i]? = some b ∧ w.heap[b]? = some (.cells arr elem fz) ∧ (∀ j, j < arr.size → w.frozen? ⟨b, j, none⟩ = false) ∧ cs.length ≤ arr.size ∧ (∀ (k : Nat) u, k < cs.length → arr[k]? = some u → u.oneCell' = true) ∧
      ∀ (k : Nat) u e, arr[k]? = some u → cs[k]? = some e → RelD w G u e ∧ Leaf0 w G.S u e := by
  have hlt : i < G.ob.length := by rw [h.len]; exact (List.getElem?_eq_some_iff.1 hi).1
  obtain ⟨arr, elem, fz, h1, h2, h3, h4, h5⟩ := h.H i _ _ (List.getElem?_eq_getElem hlt) hi
  exact ⟨_, arr, elem, fz, List.getElem?_eq_getElem hlt, h1, h2, h3, h4, h5⟩
theorem RelSt.storeCells {v : Value} {d : D} (h : RelSt w G tm df (v :: pv) (d :: pd) s) (hn : notTup d = true) {i b off : Nat} {cs : List D} (hi : s.h[i]? = some (.cells cs)) (hb : G.ob[i]? = some b)
    (ho : off + (cellsOf d).length ≤ cs.length) :
    RelSt (w.setCells b off v.cells.toList) G tm df pv pd { s with h := s.h.set i (.cells (Zfg cs off (cellsOf d))) } ∧
      Ext w G (cntS w G tm (v :: pv) (d :: pd) s) (w.setCells b off v.cells.toList) G (cntS (w.setCells b off v.cells.toList) G tm pv pd { s with h := s.h.set i (.cells (Zfg cs off (cellsOf d))) }) := by
  obtain ⟨b0, arr, elem, fz, q1, q2, q3, q4, q5, q6⟩ := h.cells hi
  rw [hb] at q1; cases q1
  obtain ⟨kr, kl⟩ := h.P.head
  obtain ⟨c1, c2⟩ := Zkp kr hn
  have c3 := Zo2 kr kl hn
  have c4 := Zo1 kr hn
  obtain ⟨⟨arr', m1, m2⟩, m3, m4⟩ := Zmr b v.cells.toList off w arr elem fz q2 (by simp [c1]; omega)
  have hob : b ∈ G.ob := Yaa hb
  have hcell : ∀ b' j, G.S b' j → (w.setCells b off v.cells.toList).cell? ⟨b', j, none⟩ = w.cell? ⟨b', j, none⟩ := by
    intro b' j hs
    have hne : b' ≠ b := fun e => by subst e; exact (h.obS i b' hb).2 (by rw [hi]; simp) j hs
    simp only [World.cell?, m3 b' hne]
  have later : Later w G (w.setCells b off v.cells.toList) G := ⟨fun _ _ h => h, fun _ _ h => h, hcell⟩
  have hno := h.noob b hob
  have keepB : ∀ b', 0 < cntS w G tm (v :: pv) (d :: pd) s b' → (w.setCells b off v.cells.toList).heap[b']? = w.heap[b']? := by
    intro b' hb'
    refine m3 b' (fun e => ?_)
    subst e; simp only [cntS] at hb'; omega
  have hlen : (cellsOf d).length = v.cells.toList.length := by simp [c1]
  have sz' : arr'.size = arr.size := by
    have := congrArg List.length m2
    rw [Zgl _ _ _ (by simp [c1]; omega)] at this; simpa using this
  have hh : ∀ b', hsum (w.setCells b off v.cells.toList) b' G.ob (s.h.set i (.cells (Zfg cs off (cellsOf d)))) ≤ hsum w b' G.ob s.h + tokT b' v d := by
    intro b'
    have e1 := Zqe (w := w.setCells b off v.cells.toList) b' G.ob s.h i b (.cells (Zfg cs off (cellsOf d))) _ hb hi
    simp only [Zg5, m1] at e1
    have e2 := Zou (tok b') arr.toList v.cells.toList cs (cellsOf d) off (by simpa using q4) (by simp [c1]) ho
    rw [← m2, ← Zg2, c4] at e2
    have e3 : ∀ (ob : List Nat) (hh : List O) (k : Nat), ob.Nodup → ob[k]? = some b → hh[k]? = some (.cells cs) → hsum (w.setCells b off v.cells.toList) b' ob hh + sumZ (tok b') arr.toList cs = hsum w b' ob hh + sumZ (tok b') arr'.toList cs := by
      intro ob
      induction ob with
      | nil => intro hh k _ h1; simp at h1
      | cons x ob ih =>
        intro hh k nd h1 h2
        cases hh with
        | nil => simp at h2
        | cons y hh =>
          cases k with
          | zero =>
            simp at h1 h2; subst h1; subst h2
            have hx : x ∉ ob := (List.nodup_cons.1 nd).1
            have : hsum (w.setCells x off v.cells.toList) b' ob hh = hsum w b' ob hh := Zim _ _ (fun k bk o h1 _ => Zht (m3 bk (fun e => hx (e ▸ Yaa h1))))
            simp only [hsum, Zg5, m1, q2, this]; omega
          | succ k =>
            have hx : x ≠ b := fun e => (List.nodup_cons.1 nd).1 (by subst e; exact Yaa (by simpa using h1))
            have := ih hh k (List.nodup_cons.1 nd).2 (by simpa using h1) (by simpa using h2)
            simp only [hsum, Zht (m3 x hx)]; omega
    have e4 := e3 G.ob s.h i h.nd hb hi
    omega
  refine ⟨{ L := ?_, P := ?_, len := by simp [h.len], nd := h.nd, obS := ?_, H := ?_, S := ?_, one := ?_, noob := ?_, dfr := ?_ }, later, by omega, fun b' hb' => .inl hb', fun _ _ _ _ _ hs => hs, fun b' _ _ hno' => m3 b' (fun e => hno' (e ▸ hob)), fun b' _ => ?_, Zs9 w b off _⟩
  · exact h.L.keep later (fun b' ht => ⟨keepB b' (by simp only [cntS]; omega), fun _ hs => hs⟩)
  · exact h.P.tail.keep later (fun b' ht => ⟨keepB b' (by simp only [cntS, sumZ]; omega), fun _ hs => hs⟩)
  · exact fun j b' hb' => ⟨by rw [m4]; exact (h.obS j b' hb').1, fun hd => (h.obS j b' hb').2 (fun e => by
      by_cases hij : i = j
      · subst hij; rw [hi] at e; cases e
      · exact hd (by simp only; rw [Ya9 hij]; exact e))⟩
  · intro j bj o h1 h2
    simp only at h2
    by_cases e : i = j
    · subst e
      rw [List.getElem?_set] at h2
      simp at h2
      obtain ⟨_, rfl⟩ := h2
      rw [hb] at h1; cases h1
      refine ⟨arr', elem, fz, m1, fun k hk => ?_, ?_, ?_, ?_⟩
      · have := q3 k (by omega)
        simp only [World.frozen?, q2] at this
        simp only [World.frozen?, m1]; exact this
      · rw [sz', Zg2, Zgl _ _ _ ho]; exact q4
      · intro k u hk hu
        rw [Zg2, Zgl _ _ _ ho] at hk
        have hu := (show arr'.toList[k]? = some u by simpa using hu)
        rw [m2, Zfd _ _ _ (by simp [c1]; omega)] at hu
        split at hu
        · exact q5 k u hk (by simpa using hu)
        · split at hu
          · exact c2 u (Yaa hu)
          · exact q5 k u hk (by simpa using hu)
      · intro k u e hu he
        have hu' : arr'.toList[k]? = some u := by simpa using hu
        rw [m2, Zfd _ _ _ (by simp [c1]; omega)] at hu'
        rw [Zg2, Zfd _ _ _ ho] at he
        rw [hlen] at he
        have fin : ∀ u e, RelD w G u e ∧ Leaf0 w G.S u e → (∀ b', tok b' u e ≤ cntS w G tm (v :: pv) (d :: pd) s b') → RelD (w.setCells b off v.cells.toList) G u e ∧ Leaf0 (w.setCells b off v.cells.toList) G.S u e := by
          rintro u e ⟨a1, a2⟩ a3
          exact ⟨a1.mono later, a2.keep later.S later.cell (fun b' ht => ⟨keepB b' (Nat.lt_of_lt_of_le ht (a3 b')), fun _ hs => hs⟩)⟩
        have old : ∀ (k : Nat) (u : Value) (e : D), arr.toList[k]? = some u → cs[k]? = some e → ∀ b', tok b' u e ≤ cntS w G tm (v :: pv) (d :: pd) s b' := by
          intro k u e hu he b'
          have a1 := Zjk (tok b') arr.toList cs k u e hu he
          have a2 := Zsv (w := w) (i := i) b' G.ob s.h i hb hi
          simp only [Zg5, q2] at a2
          simp only [cntS]; omega
        split at hu'
        · rename_i hk
          rw [if_pos hk] at he
          exact fin u e (q6 k u e (by simpa using hu') he) (old k u e hu' he)
        · rename_i hk
          rw [if_neg hk] at he
          split at hu'
          · rename_i hk2
            rw [if_pos hk2] at he
            refine fin u e (c3 (k - off) u e (by simpa using hu') he) (fun b' => ?_)
            have a1 := Zjk (tok b') v.cells.toList (cellsOf d) (k - off) u e hu' he
            rw [c4] at a1
            simp only [cntS, sumZ]; omega
          · rename_i hk2
            rw [if_neg hk2] at he
            exact fin u e (q6 k u e (by simpa using hu') he) (old k u e hu' he)
    · rw [Ya9 e] at h2
      have hne : bj ≠ b := by
        intro e2; subst e2
        exact e (Znt h.nd hb h1)
      exact (h.H j bj o h1 h2).keep later (m3 bj hne) (fun b' ht => ⟨keepB b' (by
        have := Zsv (w := w) (i := j) b' G.ob s.h j h1 h2
        simp only [cntS]; omega), fun _ hs => hs⟩)
  · intro b' j hs; obtain ⟨u, hu⟩ := h.S b' j hs; exact ⟨u, (hcell b' j hs).trans hu⟩
  · intro b'
    have h1 := h.one b'; have h2 := hh b'
    simp only [sumZ] at *; omega
  · intro b' hb'
    have h1 := h.noob b' hb'; have h2 := hh b'
    simp only [sumZ] at *; omega
  · exact h.dfr.keep later (fun b' h1 h2 => ⟨m3 b' (fun e => h2 (e ▸ hob)), h2⟩)
  · have h2 := hh b'
    simp only [cntS, sumZ] at *; omega
end
end Go.Abs
