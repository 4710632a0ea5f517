/-
  REGIONS WHOSE ORDER IS OPEN: what the evaluator's run in the order of the text tells. REGIONS WHOSE ORDER IS OPEN: in whatever order, the machine comes to where the evaluator comes. REGIONS WHOSE ORDER IS OPEN: the whole. No condition.
-/
import Derived.Test.YtkimilghfbgjmaaQ05
import Derived.Test.YtkimilghfbgjmaaQ11

open List renaming getElem?_eq_getElem → Ya4
open Nat renaming le_refl → Yab, lt_or_ge → Yag
namespace Go.Abs
inductive Tr (P : Program) (all : Array Oper) : List Todo → List (Nat × List O) → List Again → St → X × St → Prop where
  | nil (hs ag s) : Tr P all [] hs ag s (.nrm, s)
  | skip (td rest hs ag s o r) (ho : all[td.i]? = some o) (hw : want all o s = false) (t : Tr P all rest hs ag (s.put o.dst Zaw) r) : Tr P all (td :: rest) hs ag s r
  | light (td rest hs ag s o r d) (ho : all[td.i]? = some o) (hw : want all o s = true) (hh : td.hv = false) (hr : td.rds = false) (hx : Zee P o s = some d)
      (t : Tr P all rest hs ag (s.put o.dst d) r) : Tr P all (td :: rest) hs ag s r
  | read (td rest hs ag s o r d) (ho : all[td.i]? = some o) (hw : want all o s = true) (hh : td.hv = false) (hx : Zee P o s = some d) (hb : Zjn P o td.bf s.t d hs)
      (t : Tr P all rest hs ({ i := td.i, o := o, t := s.t, d := d } :: ag) (s.put o.dst d) r) : Tr P all (td :: rest) hs ag s r
  | oper (td rest hs ag s o r d s1) (ho : all[td.i]? = some o) (hw : want all o s = true) (hh : td.hv = true) (hc : Zo3 td s.t = true) (hk : Zfy o s = .other) (hx : exOp P [] o s = some (.val d, s1))
      (ha : Zjg P td.bf s1.h ag) (t : Tr P all rest ((td.i, s.h) :: hs) ag (s1.put o.dst d) r) : Tr P all (td :: rest) hs ag s r
  | call (td rest hs ag s o r d s1 g args rc) (ho : all[td.i]? = some o) (hw : want all o s = true) (hh : td.hv = true) (hc : Zo3 td s.t = true) (hk : Zfy o s = .go g args s1) (hm : MC P g args s1.h rc) (hv : rc.1 = .val d)
      (ha : Zjg P td.bf rc.2 ag) (t : Tr P all rest ((td.i, s.h) :: hs) ag (({ s1 with h := rc.2 } : St).put o.dst d) r) : Tr P all (td :: rest) hs ag s r
  | pan (td rest hs ag s o d s1 g args rc) (ho : all[td.i]? = some o) (hw : want all o s = true) (hh : td.hv = true) (hk : Zfy o s = .go g args s1) (hm : MC P g args s1.h rc) (hv : rc.1 = .pan d)
      (hd : s1.d = []) (ha : ∀ t ∈ rest, t.bf.testBit td.i = true) : Tr P all (td :: rest) hs ag s (.pan d, { t := [], d := [], r := s1.r, h := rc.2 })
def EH (all : Array Oper) (S : Nat → St) (i : Nat) : Prop := ∃ o, all[i]? = some o ∧ heavy o.op = true ∧ want all o (S i) = true
def Calm (all : Array Oper) (i : Nat) (t : List D) : Prop :=
  (∀ p ∈ Zo6 all i, ∀ x ∈ Zjo all p, ownD (t.getD x Zaw) = false) ∧ (∀ p ∈ Zo6 all i, ∀ x ∈ Zln p, excD (t.getD x Zaw) = false)
inductive StepOK (P : Program) (all : Array Oper) (S : Nat → St) (j : Nat) (o : Oper) : Prop where
  | skip (hw : want all o (S j) = false) (e : S (j + 1) = (S j).put o.dst Zaw)
  | light (d : D) (hw : want all o (S j) = true) (hh : heavy o.op = false) (hx : Zee P o (S j) = some d) (e : S (j + 1) = (S j).put o.dst d)
      (hr : Zmg o.op = true → ∀ k, k ≤ all.size → (∀ i, EH all S i → k ≤ i → i < j → ¬ Bef all j i) → (∀ i, EH all S i → j ≤ i → i < k → ¬ Bef all i j) →
        Zee P o { t := (S j).t, d := [], r := .no, h := (S k).h } = some d)
  | oper (d : D) (s1 : St) (hw : want all o (S j) = true) (hh : heavy o.op = true) (hc : Calm all j (S j).t) (hk : Zfy o (S j) = .other) (hx : exOp P [] o (S j) = some (.val d, s1)) (e : S (j + 1) = s1.put o.dst d)
  | call (d : D) (s1 : St) (g : Tgt) (args : List D) (rc : Out × List O) (hw : want all o (S j) = true) (hh : heavy o.op = true) (hc : Calm all j (S j).t) (hk : Zfy o (S j) = .go g args s1) (hm : MC P g args s1.h rc) (hv : rc.1 = .val d)
      (e : S (j + 1) = ({ s1 with h := rc.2 } : St).put o.dst d)
theorem Zrd (s : St) (dst : Option Tmp) (d : D) : (s.put dst d).h = s.h := by cases dst <;> rfl
theorem Zy6 (s : St) (dst : Option Tmp) (d : D) : (s.put dst d).d = s.d := by cases dst <;> rfl
theorem Zqt {P : Program} {o : Oper} {s : St} {d : D} (hx : Zee P o s = some d) : Zee P o { t := s.t, d := [], r := .no, h := s.h } = some d :=
  Zvp hx (by unfold Zxt; split <;> first | rfl | exact fun _ _ => rfl) (.inl rfl)
def Good (P : Program) (all : Array Oper) (S : Nat → St) (m : Nat) (a : Again) : Prop :=
  ∀ k, a.i ≤ k → k ≤ m → (∀ i, EH all S i → a.i ≤ i → i < k → ¬ Bef all i a.i) → Zee P a.o { t := a.t, d := [], r := .no, h := (S k).h } = some a.d
theorem EH.congr {all : Array Oper} {S S' : Nat → St} {i : Nat} (h : S i = S' i) : EH all S i ↔ EH all S' i := by unfold EH; rw [h]
def upd (S : Nat → St) (j : Nat) (s : St) : Nat → St := fun i => if i ≤ j then S i else s
def PanAt (P : Program) (all : Array Oper) (S : Nat → St) (p : Nat) (r : X × St) : Prop :=
  ∃ o d s1 g args rc, all[p]? = some o ∧ want all o (S p) = true ∧ heavy o.op = true ∧ Zfy o (S p) = .go g args s1 ∧ MC P g args s1.h rc ∧ rc.1 = .pan d ∧ s1.d = [] ∧ r = (.pan d, { t := [], d := [], r := s1.r, h := rc.2 }) ∧
    (∀ k, p < k → k < all.size → Bef all k p) ∧ ∀ k, p ≤ k → S k = S p
def Res (P : Program) (all : Array Oper) (S : Nat → St) (j : Nat) (r : X × St) : Prop :=
  (r = (.nrm, S all.size) ∧ ∀ (i : Nat) o, j ≤ i → all[i]? = some o → StepOK P all S i o) ∨
    ∃ p, j ≤ p ∧ p < all.size ∧ PanAt P all S p r ∧ ∀ (i : Nat) o, j ≤ i → i < p → all[i]? = some o → StepOK P all S i o
theorem Res.step {P : Program} {all : Array Oper} {S : Nat → St} {j : Nat} {r : X × St} (h : Res P all S (j + 1) r) (hs : ∀ o, all[j]? = some o → StepOK P all S j o) : Res P all S j r := by
  rcases h with ⟨h1, h2⟩ | ⟨p, h1, h2, h3, h4⟩
  · refine .inl ⟨h1, fun i o hi ho => ?_⟩
    by_cases hij : i = j
    · subst hij; exact hs o ho
    · exact h2 i o (by omega) ho
  · refine .inr ⟨p, by omega, h2, h3, fun i o hi hip ho => ?_⟩
    by_cases hij : i = j
    · subst hij; exact hs o ho
    · exact h4 i o (by omega) hip ho
structure Before (P : Program) (all : Array Oper) (S : Nat → St) (j : Nat) (hs : List (Nat × List O)) (ag : List Again) : Prop where
  heavy : ∀ i, i < j → EH all S i → (i, (S i).h) ∈ hs
  same : ∀ i, i < j → ¬ EH all S i → (S (i + 1)).h = (S i).h
  good : ∀ a ∈ ag, a.i ≤ j ∧ Good P all S j a
theorem tr_run {P : Program} {all : Array Oper} {plan : List Todo} (hp : Zh4 all = some plan) : ∀ {l : List Todo} {hs : List (Nat × List O)} {ag : List Again} {s : St} {r : X × St}, Tr P all l hs ag s r →
    ∀ (j : Nat) (S0 : Nat → St), l = plan.drop j → j ≤ all.size → S0 j = s → Before P all S0 j hs ag →
    ∃ S : Nat → St, (∀ i, i ≤ j → S i = S0 i) ∧ Res P all S j r ∧ ∀ a ∈ ag, Good P all S all.size a := by
  have hpl : plan.length = all.size ∧ ∀ (j : Nat) td, plan[j]? = some td → td.i = j ∧ td.bf = (Region.before all).getD j 0 ∧ ∀ o, all[j]? = some o → td.hv = heavy o.op ∧ td.rds = Zmg o.op ∧
      (heavy o.op = true → td.nm = (Zo6 all j).flatMap (Zjo all) ∧ td.mv = (Zo6 all j).flatMap Zln) := by
    unfold Zh4 at hp
    split at hp
    · simp only [Option.some.injEq] at hp
      subst hp
      refine ⟨by simp, fun j td htd => ?_⟩
      simp only [List.getElem?_map, List.getElem?_zipIdx, Option.map_map, Option.map_eq_some_iff] at htd
      obtain ⟨o, ho, rfl⟩ := htd
      refine ⟨by simp, by simp, fun o' ho' => ?_⟩
      have : o = o' := by
        rw [Array.getElem?_toList, ho'] at ho; exact (Option.some.inj ho).symm
      subst this
      refine ⟨rfl, rfl, fun hh => ?_⟩
      simp [hh]
    · simp at hp
  have hstep : ∀ {td : Todo} {rest : List Todo} {j : Nat}, td :: rest = plan.drop j → plan[j]? = some td ∧ rest = plan.drop (j + 1) ∧ j < all.size := by
    intro td rest j h
    have hlt : j < plan.length := by
      rcases Yag j plan.length with h' | h'
      · exact h'
      · rw [List.drop_eq_nil_of_le h'] at h; simp at h
    rw [List.drop_eq_getElem_cons hlt] at h
    simp only [List.cons.injEq] at h
    exact ⟨by rw [Ya4 hlt, h.1], h.2, by omega⟩
  have hcalm : ∀ {td : Todo} {j : Nat} {o : Oper} {t : List D}, plan[j]? = some td → all[j]? = some o → heavy o.op = true → Zo3 td t = true → Calm all j t := by
    intro td j o t htd ho hh hc
    obtain ⟨_, _, h3⟩ := hpl.2 j td htd
    obtain ⟨h4, h5⟩ := (h3 o ho).2.2 hh
    simp only [Zo3, Bool.and_eq_true, List.all_eq_true, Bool.not_eq_true', h4, h5, List.mem_flatMap] at hc
    exact ⟨fun p hp x hx => hc.1 x ⟨p, hp, hx⟩, fun p hp x hx => hc.2 x ⟨p, hp, hx⟩⟩
  have hnext : ∀ {j : Nat} {S0 : Nat → St} {hs hs' : List (Nat × List O)} {ag ag' : List Again} {s' : St}, Before P all S0 j hs ag → (∀ x ∈ hs, x ∈ hs') → (EH all S0 j → (j, (S0 j).h) ∈ hs') → (¬ EH all S0 j → s'.h = (S0 j).h) →
      (∀ a ∈ ag', a ∈ ag ∨ (a.i = j ∧ ¬ EH all S0 j ∧ Zee P a.o { t := a.t, d := [], r := .no, h := (S0 j).h } = some a.d)) →
      (∀ a ∈ ag', EH all S0 j → ¬ Bef all j a.i → Zee P a.o { t := a.t, d := [], r := .no, h := s'.h } = some a.d) →
      Before P all (upd S0 j s') (j + 1) hs' ag' := by
    intro j S0 hs hs' ag ag' s' hb h1 h2 h3 h4 h5
    have e : ∀ i, i ≤ j → upd S0 j s' i = S0 i := fun i hi => by simp only [upd]; rw [if_pos hi]
    have e' : upd S0 j s' (j + 1) = s' := by simp only [upd]; rw [if_neg (by omega)]
    refine ⟨fun i hi hE => ?_, fun i hi hE => ?_, fun a ha => ?_⟩
    · rw [EH.congr (e i (by omega))] at hE
      rw [e i (by omega)]
      by_cases hij : i = j
      · subst hij; exact h2 hE
      · exact h1 _ (hb.heavy i (by omega) hE)
    · rw [EH.congr (e i (by omega))] at hE
      rw [e i (by omega)]
      by_cases hij : i = j
      · subst hij; rw [e']; exact h3 hE
      · rw [e (i + 1) (by omega)]; exact hb.same i (by omega) hE
    · have hold : a.i ≤ j ∧ Good P all S0 j a := by
        rcases h4 a ha with h | ⟨q1, q2, q3⟩
        · exact hb.good a h
        · refine ⟨by omega, fun k hk hk2 _ => ?_⟩
          have : k = j := by omega
          subst this; exact q3
      refine ⟨by omega, fun k hk hk2 hcond => ?_⟩
      by_cases hkj : k ≤ j
      · rw [e k hkj]
        exact hold.2 k hk hkj (fun i hE h1 h2 => hcond i ((EH.congr (e i (by omega))).2 hE) h1 h2)
      · have : k = j + 1 := by omega
        subst this
        rw [e']
        by_cases hE : EH all S0 j
        · exact h5 a ha hE (hcond j ((EH.congr (e j (by omega))).2 hE) hold.1 (by omega))
        · rw [h3 hE]
          exact hold.2 j hold.1 (by omega) (fun i hE h1 h2 => hcond i ((EH.congr (e i (by omega))).2 hE) h1 (by omega))
  intro l hs ag s r htr
  induction htr with
  | nil hs ag s =>
    intro j S0 hl hj hs0 hb
    have hlen : plan.length ≤ j := by
      rcases Yag j plan.length with h | h
      · rw [List.drop_eq_getElem_cons h] at hl; simp at hl; try omega
      · exact h
    have hje : j = all.size := by omega
    subst hje
    refine ⟨S0, fun _ _ => rfl, .inl ⟨by rw [hs0], fun i o hi ho => ?_⟩, fun a ha => (hb.good a ha).2⟩
    have := (Array.getElem?_eq_some_iff.1 ho).1
    omega
  | skip td rest hs ag s o r ho hw t ih =>
    intro j S0 hl hj hs0 hb
    obtain ⟨p1, p2, p3⟩ := hstep hl
    obtain ⟨q1, q2, q3⟩ := hpl.2 j td p1
    rw [q1] at ho
    have hnE : ¬ EH all S0 j := by
      rintro ⟨o', ho', _, hw'⟩
      rw [ho] at ho'; cases ho'
      rw [hs0, hw] at hw'; simp at hw'
    obtain ⟨S, r1, r2, r4⟩ := ih (j + 1) (upd S0 j (s.put o.dst Zaw)) p2 (by omega) (by simp only [upd]; rw [if_neg (by omega)])
      (hnext hb (fun _ h => h) (fun h => absurd h hnE) (fun _ => by rw [Zrd, hs0]) (fun a ha => .inl ha) (fun a ha h => absurd h hnE))
    have e1 : ∀ i, i ≤ j → S i = S0 i := fun i hi => by rw [r1 i (by omega)]; simp only [upd]; rw [if_pos hi]
    have e2 : S (j + 1) = s.put o.dst Zaw := by rw [r1 _ (Yab _)]; simp only [upd]; rw [if_neg (by omega)]
    refine ⟨S, e1, r2.step fun o' ho' => ?_, r4⟩
    rw [ho] at ho'; cases ho'
    exact .skip (by rw [e1 _ (Yab _), hs0]; exact hw) (by rw [e2, e1 _ (Yab _), hs0])
  | light td rest hs ag s o r d ho hw hh hr hx t ih =>
    intro j S0 hl hj hs0 hb
    obtain ⟨p1, p2, p3⟩ := hstep hl
    obtain ⟨q1, q2, q3⟩ := hpl.2 j td p1
    rw [q1] at ho
    obtain ⟨q4, q5, _⟩ := q3 o ho
    have hnE : ¬ EH all S0 j := by
      rintro ⟨o', ho', hh', _⟩
      rw [ho] at ho'; cases ho'
      rw [← q4, hh] at hh'; simp at hh'
    obtain ⟨S, r1, r2, r4⟩ := ih (j + 1) (upd S0 j (s.put o.dst d)) p2 (by omega) (by simp only [upd]; rw [if_neg (by omega)])
      (hnext hb (fun _ h => h) (fun h => absurd h hnE) (fun _ => by rw [Zrd, hs0]) (fun a ha => .inl ha) (fun a ha h => absurd h hnE))
    have e1 : ∀ i, i ≤ j → S i = S0 i := fun i hi => by rw [r1 i (by omega)]; simp only [upd]; rw [if_pos hi]
    have e2 : S (j + 1) = s.put o.dst d := by rw [r1 _ (Yab _)]; simp only [upd]; rw [if_neg (by omega)]
    refine ⟨S, e1, r2.step fun o' ho' => ?_, r4⟩
    rw [ho] at ho'; cases ho'
    have ej := e1 j (Yab _)
    exact .light d (by rw [ej, hs0]; exact hw) (by rw [← q4]; exact hh) (by rw [ej, hs0]; exact hx) (by rw [e2, ej, hs0]) (fun hr' => by rw [← q5, hr] at hr'; simp at hr')
  | read td rest hs ag s o r d ho hw hh hx hsb t ih =>
    intro j S0 hl hj hs0 hb
    obtain ⟨p1, p2, p3⟩ := hstep hl
    obtain ⟨q1, q2, q3⟩ := hpl.2 j td p1
    rw [q1] at ho
    obtain ⟨q4, q5, _⟩ := q3 o ho
    have hnE : ¬ EH all S0 j := by
      rintro ⟨o', ho', hh', _⟩
      rw [ho] at ho'; cases ho'
      rw [← q4, hh] at hh'; simp at hh'
    obtain ⟨S, r1, r2, r4⟩ := ih (j + 1) (upd S0 j (s.put o.dst d)) p2 (by omega) (by simp only [upd]; rw [if_neg (by omega)])
      (hnext hb (fun _ h => h) (fun h => absurd h hnE) (fun _ => by rw [Zrd, hs0]) (fun a ha => by
        rcases List.mem_cons.1 ha with rfl | ha
        · exact .inr ⟨q1, hnE, by rw [hs0]; exact Zqt hx⟩
        · exact .inl ha) (fun a ha h => absurd h hnE))
    have e1 : ∀ i, i ≤ j → S i = S0 i := fun i hi => by rw [r1 i (by omega)]; simp only [upd]; rw [if_pos hi]
    have e2 : S (j + 1) = s.put o.dst d := by rw [r1 _ (Yab _)]; simp only [upd]; rw [if_neg (by omega)]
    refine ⟨S, e1, r2.step fun o' ho' => ?_, fun a ha => r4 a (by simp [ha])⟩
    rw [ho] at ho'; cases ho'
    have ej := e1 j (Yab _)
    refine .light d (by rw [ej, hs0]; exact hw) (by rw [← q4]; exact hh) (by rw [ej, hs0]; exact hx) (by rw [e2, ej, hs0]) (fun _ k hk hc1 hc2 => ?_)
    rw [ej, hs0]
    rcases Yag k j with hlt | hge
    · -- ahead
      have key : ∀ m, ∀ k, j - k = m → k ≤ j → (∀ x, EH all S0 x → k ≤ x → x < j → ¬ Bef all j x) → Zee P o { t := s.t, d := [], r := .no, h := (S0 k).h } = some d := by
        intro m
        induction m with
        | zero =>
          intro k hm hk _
          have : k = j := by omega
          subst this; rw [hs0]; exact Zqt hx
        | succ m ihm =>
          intro k hm hk hc
          by_cases hE : EH all S0 k
          · have hnb := hc k hE (Yab _) (by omega)
            have := hsb _ (hb.heavy k (by omega) hE)
            rw [q2] at this
            exact this (by unfold Bef at hnb; simpa using hnb)
          · rw [← hb.same k (by omega) hE]
            exact ihm (k + 1) (by omega) (by omega) (fun x hx h1 h2 => hc x hx (by omega) h2)
      rw [e1 k (by omega)]
      exact key _ k rfl (by omega) (fun x hx h1 h2 => hc1 x ((EH.congr (e1 x (by omega))).2 hx) h1 h2)
    · have := r4 { i := td.i, o := o, t := s.t, d := d } (by simp) k (by simp only [q1]; exact hge) hk (fun x hx h1 h2 => by simp only [q1] at h1 ⊢; exact hc2 x hx h1 h2)
      exact this
  | oper td rest hs ag s o r d s1 ho hw hh hc hk hx ha t ih =>
    intro j S0 hl hj hs0 hb
    obtain ⟨p1, p2, p3⟩ := hstep hl
    obtain ⟨q1, q2, q3⟩ := hpl.2 j td p1
    rw [q1] at ho
    obtain ⟨q4, q5, _⟩ := q3 o ho
    have hE : EH all S0 j := ⟨o, ho, by rw [← q4]; exact hh, by rw [hs0]; exact hw⟩
    obtain ⟨S, r1, r2, r4⟩ := ih (j + 1) (upd S0 j (s1.put o.dst d)) p2 (by omega) (by simp only [upd]; rw [if_neg (by omega)])
      (hnext hb (fun _ h => by simp [h]) (fun _ => by simp [q1, hs0]) (fun h => absurd hE h) (fun a ha => .inl ha) (fun a ham _ hnb => by
        rw [Zrd]; have := ha a ham; rw [q2] at this; exact this (by unfold Bef at hnb; simpa using hnb)))
    have e1 : ∀ i, i ≤ j → S i = S0 i := fun i hi => by rw [r1 i (by omega)]; simp only [upd]; rw [if_pos hi]
    have e2 : S (j + 1) = s1.put o.dst d := by rw [r1 _ (Yab _)]; simp only [upd]; rw [if_neg (by omega)]
    refine ⟨S, e1, r2.step fun o' ho' => ?_, r4⟩
    rw [ho] at ho'; cases ho'
    have ej := e1 j (Yab _)
    have hhv : heavy o.op = true := by rw [← q4]; exact hh
    exact .oper d s1 (by rw [ej, hs0]; exact hw) hhv (by rw [ej, hs0]; exact hcalm p1 ho hhv hc) (by rw [ej, hs0]; exact hk) (by rw [ej, hs0]; exact hx) e2
  | call td rest hs ag s o r d s1 g args rc ho hw hh hc hk hm hv ha t ih =>
    intro j S0 hl hj hs0 hb
    obtain ⟨p1, p2, p3⟩ := hstep hl
    obtain ⟨q1, q2, q3⟩ := hpl.2 j td p1
    rw [q1] at ho
    obtain ⟨q4, q5, _⟩ := q3 o ho
    have hE : EH all S0 j := ⟨o, ho, by rw [← q4]; exact hh, by rw [hs0]; exact hw⟩
    obtain ⟨S, r1, r2, r4⟩ := ih (j + 1) (upd S0 j (({ s1 with h := rc.2 } : St).put o.dst d)) p2 (by omega) (by simp only [upd]; rw [if_neg (by omega)])
      (hnext hb (fun _ h => by simp [h]) (fun _ => by simp [q1, hs0]) (fun h => absurd hE h) (fun a ha => .inl ha) (fun a ham _ hnb => by
        rw [Zrd]; have := ha a ham; rw [q2] at this; exact this (by unfold Bef at hnb; simpa using hnb)))
    have e1 : ∀ i, i ≤ j → S i = S0 i := fun i hi => by rw [r1 i (by omega)]; simp only [upd]; rw [if_pos hi]
    have e2 : S (j + 1) = ({ s1 with h := rc.2 } : St).put o.dst d := by rw [r1 _ (Yab _)]; simp only [upd]; rw [if_neg (by omega)]
    refine ⟨S, e1, r2.step fun o' ho' => ?_, r4⟩
    rw [ho] at ho'; cases ho'
    have ej := e1 j (Yab _)
    have hhv : heavy o.op = true := by rw [← q4]; exact hh
    exact .call d s1 g args rc (by rw [ej, hs0]; exact hw) hhv (by rw [ej, hs0]; exact hcalm p1 ho hhv hc) (by rw [ej, hs0]; exact hk) hm hv e2
  | pan td rest hs ag s o d s1 g args rc ho hw hh hk hm hv hd ha =>
    intro j S0 hl hj hs0 hb
    obtain ⟨p1, p2, p3⟩ := hstep hl
    obtain ⟨q1, q2, q3⟩ := hpl.2 j td p1
    rw [q1] at ho
    obtain ⟨q4, q5, _⟩ := q3 o ho
    have e : ∀ i, i ≤ j → upd S0 j s i = S0 i := fun i hi => by simp only [upd]; rw [if_pos hi]
    have ej : upd S0 j s j = s := by rw [e j (Yab _), hs0]
    have ek : ∀ k, j ≤ k → upd S0 j s k = s := fun k hk => by
      by_cases h : k = j
      · subst h; exact ej
      · simp only [upd]; rw [if_neg (by omega)]
    refine ⟨upd S0 j s, e, .inr ⟨j, Yab _, p3, ⟨o, d, s1, g, args, rc, ho, by rw [ej]; exact hw, by rw [← q4]; exact hh, by rw [ej]; exact hk, hm, hv, hd, rfl, fun k hk1 hk2 => ?_, fun k hk => by rw [ek k hk, ej]⟩, fun i o h1 h2 => absurd h1 (by omega)⟩, fun a ha' => ?_⟩
    · have hkp : k < plan.length := by omega
      have hk3 : plan[k]? = some plan[k] := Ya4 hkp
      obtain ⟨_, z2, _⟩ := hpl.2 k _ hk3
      have hmem : plan[k] ∈ rest := by
        rw [p2]
        refine List.mem_of_getElem? (i := k - (j + 1)) ?_
        rw [List.getElem?_drop, show j + 1 + (k - (j + 1)) = k by omega]; exact hk3
      have := ha _ hmem
      rw [z2, q1] at this
      exact this
    · intro k hk hk2 hcond
      have hold := hb.good a ha'
      by_cases hkj : k ≤ j
      · rw [e k hkj]
        exact hold.2 k hk hkj (fun i hE h1 h2 => hcond i ((EH.congr (e i (by omega))).2 hE) h1 h2)
      · rw [ek k (by omega), ← hs0]
        exact hold.2 j hold.1 (Yab _) (fun i hE h1 h2 => hcond i ((EH.congr (e i (by omega))).2 hE) h1 (by omega))
end Go.Abs
namespace Go.Abs
section
variable {P : Program} {all : Array Oper} {S : Nat → St}
inductive StepW (P : Program) (all : Array Oper) (S : Nat → St) (j : Nat) (o : Oper) : Prop where
  | ok (h : StepOK P all S j o)
  | odd (e : S (j + 1) = S j)
def Tch (all : Array Oper) (i t : Nat) : Prop := ∃ o, all[i]? = some o ∧ (o.dst = some t ∨ (heavy o.op = true ∧ t ∈ Zix all o))
def Hv (all : Array Oper) (i : Nat) : Prop := ∃ o, all[i]? = some o ∧ heavy o.op = true
theorem Zpl (hp : Plan all) {i j t : Nat} (hi : Tch all i t) (hj : Tch all j t) (hij : i < j) : Bef all j i := by
  obtain ⟨p, hpo, hi⟩ := hi
  obtain ⟨o, ho, hj⟩ := hj
  refine Classical.byContradiction fun hb => ?_
  obtain ⟨h1, h2, h3⟩ := hp.pair i j p o hpo ho hij hb
  have mo : t ∈ Zix all o := by
    rcases hj with hj | hj
    · simp [Zix, hj]
    · exact hj.2
  have mp : t ∈ Zix all p := by
    rcases hi with hi | hi
    · simp [Zix, hi]
    · exact hi.2
  rcases hi with hi | hi
  · exact h2 t hi mo
  · rcases hj with hj | hj
    · exact h3 t hj mp
    · exact h1 ⟨hi.1, hj.1⟩
theorem Zrr (hp : Plan all) {i j : Nat} (hi : Hv all i) (hj : Hv all j) (hij : i < j) : Bef all j i := by
  obtain ⟨p, hpo, hi⟩ := hi
  obtain ⟨o, ho, hj⟩ := hj
  refine Classical.byContradiction fun hb => ?_
  exact (hp.pair i j p o hpo ho hij hb).1 ⟨hi, hj⟩
theorem sep {T : Nat → Prop} {D : Nat → Prop} (hT : ∀ i j, T i → T j → i < j → Bef all j i) (hD : ∀ j, D j → ∀ i, Bef all j i → D i) : ∀ n : Nat, ∃ k, k ≤ n ∧ ∀ i, i < n → T i → (D i ↔ i < k)
  | 0 => ⟨0, Yab _, fun i hi => absurd hi (by omega)⟩
  | n + 1 => by
    obtain ⟨k, hk, h⟩ := sep hT hD n
    by_cases hTn : T n
    · by_cases hDn : D n
      · refine ⟨n + 1, Yab _, fun i hi hTi => ⟨fun _ => hi, fun _ => ?_⟩⟩
        by_cases e : i = n
        · subst e; exact hDn
        · exact hD n hDn i (hT i n hTi hTn (by omega))
      · refine ⟨k, by omega, fun i hi hTi => ?_⟩
        by_cases e : i = n
        · subst e; exact ⟨fun h => absurd h hDn, fun h => by omega⟩
        · exact h i (by omega) hTi
    · refine ⟨k, by omega, fun i hi hTi => ?_⟩
      by_cases e : i = n
      · subst e; exact absurd hTi hTn
      · exact h i (by omega) hTi
theorem Zjx (s : St) {dst : Option Tmp} {t : Nat} (d : D) (h : dst ≠ some t) : (s.put dst d).t[t]? = s.t[t]? := by
  cases dst with
  | none => rfl
  | some u =>
    have : u ≠ t := fun e => h (by rw [e])
    simp only [St.put]; rw [List.getElem?_set_ne this]
theorem Zqp (s : St) (dst : Option Tmp) (d : D) : (s.put dst d).t.length = s.t.length := by cases dst <;> simp [St.put]
theorem put_near (s s' : St) (h : s.t.length = s'.t.length) (t : Nat) (d : D) : (s.put (some t) d).t[t]? = (s'.put (some t) d).t[t]? := by
  simp only [St.put, List.getElem?_set]; simp [h]
theorem Zp8 {o : Oper} (hh : heavy o.op = true) {s s1 : St} {d : D} (hx : exOp P [] o s = some (.val d, s1)) : Touch (opTs o.op) s s1 := by
  obtain ⟨s1', k1, k2⟩ := heavy_ag hh (s' := s) ⟨rfl, rfl, rfl, rfl, fun _ _ => rfl⟩ hx
  exact k2.l
theorem Zqv {o : Oper} {s s1 : St} {g : Tgt} {args : List D} (hx : Zfy o s = .go g args s1) : Touch (opTs o.op) s s1 ∧ s1.h = s.h ∧ s1.d = s.d ∧ s1.r = s.r := by
  obtain ⟨s1', k1, k2⟩ := Zyu (s' := s) ⟨rfl, rfl, rfl, rfl, fun _ _ => rfl⟩ hx
  refine ⟨k2.l, ?_⟩
  have tk0 : ∀ {s s1 : St} {x : Operand} {d : D}, tk s x = some (d, s1) → s1.h = s.h ∧ s1.d = s.d ∧ s1.r = s.r := by
    intro s s1 x d h
    cases x with
    | tmp t =>
      simp only [tk] at h
      split at h <;> (simp only [Option.some.injEq, Prod.mk.injEq] at h; obtain ⟨_, rfl⟩ := h; exact ⟨rfl, rfl, rfl⟩)
    | _ => simp only [tk, Option.map_eq_some_iff, Prod.mk.injEq] at h; obtain ⟨_, _, _, rfl⟩ := h; exact ⟨rfl, rfl, rfl⟩
  have tks0 : ∀ {xs : List Operand} {s s1 : St} {ds : List D}, tks s xs = some (ds, s1) → s1.h = s.h ∧ s1.d = s.d ∧ s1.r = s.r := by
    intro xs
    induction xs with
    | nil => intro s s1 ds h; simp [tks] at h; obtain ⟨_, rfl⟩ := h; exact ⟨rfl, rfl, rfl⟩
    | cons x xs ih =>
      intro s s1 ds h
      simp only [tks] at h
      split at h
      · rename_i d s2 h1
        split at h
        · rename_i ds' s3 h2
          simp at h; obtain ⟨_, rfl⟩ := h
          obtain ⟨a1, a2, a3⟩ := tk0 h1
          obtain ⟨b1, b2, b3⟩ := ih h2
          exact ⟨b1.trans a1, b2.trans a2, b3.trans a3⟩
        · simp at h
      · simp at h
  unfold Zfy at hx
  split at hx
  · split at hx
    · split at hx
      · rename_i h2
        split at hx
        · simp only [Kind.go.injEq] at hx
          obtain ⟨_, _, rfl⟩ := hx
          exact tks0 h2
        · simp at hx
      · rename_i h2
        simp only [Kind.go.injEq] at hx
        obtain ⟨_, _, rfl⟩ := hx
        exact tks0 h2
      · simp at hx
    · simp at hx
    · simp at hx
  · simp at hx
theorem Zlf {o : Oper} {t : Nat} (h : t ∈ opTs o.op) : t ∈ Zix all o := by
  unfold opTs at h; simp only [Zix, List.mem_append]; exact .inl (.inr h)
theorem step_far (hS : ∀ (j : Nat) o, all[j]? = some o → StepW P all S j o) {j : Nat} (hj : j < all.size) {t : Nat} (ht : ¬ Tch all j t) : (S (j + 1)).t[t]? = (S j).t[t]? := by
  have ho : all[j]? = some all[j] := Array.getElem?_eq_getElem hj
  generalize all[j] = o at ho
  have hd : o.dst ≠ some t := fun e => ht ⟨o, ho, .inl e⟩
  rcases hS j o ho with hok | e
  rotate_left
  · rw [e]
  cases hok with
  | skip hw e => rw [e, Zjx _ _ hd]
  | light d hw hh hx e hr => rw [e, Zjx _ _ hd]
  | oper d s1 hw hh hc hk hx e =>
    have hn : t ∉ opTs o.op := fun h => ht ⟨o, ho, .inr ⟨hh, Zlf h⟩⟩
    rw [e, Zjx _ _ hd, (Zp8 hh hx).far t hn]
  | call d s1 g args rc hw hh hc hk hm hv e =>
    have hn : t ∉ opTs o.op := fun h => ht ⟨o, ho, .inr ⟨hh, Zlf h⟩⟩
    rw [e, Zjx _ _ hd]
    exact (Zqv hk).1.far t hn
theorem step_len (hS : ∀ (j : Nat) o, all[j]? = some o → StepW P all S j o) {j : Nat} (hj : j < all.size) : (S (j + 1)).t.length = (S j).t.length := by
  have ho : all[j]? = some all[j] := Array.getElem?_eq_getElem hj
  generalize all[j] = o at ho
  rcases hS j o ho with hok | e
  rotate_left
  · rw [e]
  cases hok with
  | skip hw e => rw [e, Zqp]
  | light d hw hh hx e hr => rw [e, Zqp]
  | oper d s1 hw hh hc hk hx e => rw [e, Zqp, (Zp8 hh hx).len]
  | call d s1 g args rc hw hh hc hk hm hv e => rw [e, Zqp]; exact (Zqv hk).1.len
theorem Zse (s : St) (dst : Option Tmp) (d : D) : (s.put dst d).r = s.r := by cases dst <;> rfl
theorem step_mem (hS : ∀ (j : Nat) o, all[j]? = some o → StepW P all S j o) {j : Nat} (hj : j < all.size) (h : ¬ Hv all j) : (S (j + 1)).h = (S j).h ∧ (S (j + 1)).d = (S j).d ∧ (S (j + 1)).r = (S j).r := by
  have ho : all[j]? = some all[j] := Array.getElem?_eq_getElem hj
  generalize all[j] = o at ho
  rcases hS j o ho with hok | e
  rotate_left
  · rw [e]; exact ⟨rfl, rfl, rfl⟩
  cases hok with
  | skip hw e => rw [e, Zrd, Zy6, Zse]; exact ⟨rfl, rfl, rfl⟩
  | light d hw hh hx e hr => rw [e, Zrd, Zy6, Zse]; exact ⟨rfl, rfl, rfl⟩
  | oper d s1 hw hh hc hk hx e => exact absurd ⟨o, ho, hh⟩ h
  | call d s1 g args rc hw hh hc hk hm hv e => exact absurd ⟨o, ho, hh⟩ h
theorem Zvq (hS : ∀ (j : Nat) o, all[j]? = some o → StepW P all S j o) : ∀ k, k ≤ all.size → (S k).t.length = (S 0).t.length
  | 0, _ => rfl
  | k + 1, h => (step_len hS (by omega)).trans (Zvq hS k (by omega))
theorem far_all (hS : ∀ (j : Nat) o, all[j]? = some o → StepW P all S j o) {t a : Nat} : ∀ m, a + m ≤ all.size → (∀ i, a ≤ i → i < a + m → ¬ Tch all i t) → (S (a + m)).t[t]? = (S a).t[t]?
  | 0, _, _ => rfl
  | m + 1, h, hc => (step_far hS (by omega) (hc (a + m) (by omega) (by omega))).trans (far_all hS m (by omega) (fun i h1 h2 => hc i h1 (by omega)))
theorem Zyq (hS : ∀ (j : Nat) o, all[j]? = some o → StepW P all S j o) {a : Nat} : ∀ m, a + m ≤ all.size → (∀ i, a ≤ i → i < a + m → ¬ Hv all i) → (S (a + m)).h = (S a).h ∧ (S (a + m)).d = (S a).d ∧ (S (a + m)).r = (S a).r
  | 0, _, _ => ⟨rfl, rfl, rfl⟩
  | m + 1, h, hc => by
    obtain ⟨a1, a2, a3⟩ := step_mem hS (j := a + m) (by omega) (hc (a + m) (by omega) (by omega))
    obtain ⟨b1, b2, b3⟩ := Zyq hS m (by omega) (fun i h1 h2 => hc i h1 (by omega))
    exact ⟨a1.trans b1, a2.trans b2, a3.trans b3⟩
theorem Zsz {s s' : St} {t : Nat} (h : s.t[t]? = s'.t[t]?) : s.t.getD t Zaw = s'.t.getD t Zaw := by simp [List.getD, h]
theorem see (hp : Plan all) (hS : ∀ (j : Nat) o, all[j]? = some o → StepW P all S j o) {j : Nat} {p : Oper} (hj : all[j]? = some p) {t a : Nat} (htn : t ∈ Zix all p) : ∀ m, a + m ≤ all.size →
    (∀ i, a ≤ i → i < a + m → Tch all i t → i ≠ j ∧ ¬ Bef all i j ∧ ¬ Bef all j i) →
    (t ∈ Zjo all p → (S (a + m)).t.getD t Zaw = (S a).t.getD t Zaw) ∧
    (t ∈ Zln p → ((S (a + m)).t.getD t Zaw = (S a).t.getD t Zaw) ∨ (cpD ((S (a + m)).t.getD t Zaw) = cpD ((S a).t.getD t Zaw) ∧ excD ((S a).t.getD t Zaw) = false))
  | 0, _, _ => ⟨fun _ => rfl, fun _ => .inl rfl⟩
  | m + 1, hm, hc => by
    obtain ⟨ih1, ih2⟩ := see hp hS hj htn (a := a) m (by omega) (fun i h1 h2 => hc i h1 (by omega))
    by_cases hT : Tch all (a + m) t
    · obtain ⟨hne, hb1, hb2⟩ := hc (a + m) (by omega) (by omega) hT
      have hlt : a + m < all.size := by omega
      have ho : all[a + m]? = some all[a + m] := Array.getElem?_eq_getElem hlt
      generalize all[a + m] = o at ho
      have hnw : o.dst ≠ some t := by
        intro hd
        rcases Yag (a + m) j with h | h
        · exact (hp.pair _ _ o p ho hj h hb2).2.1 t hd htn
        · exact (hp.pair _ _ p o hj ho (by omega) hb1).2.2 t hd htn
      have hbes : p ∈ Zo6 all (a + m) := by
        unfold Zo6
        simp only [List.mem_map, List.mem_filter, Bool.and_eq_true, Bool.not_eq_true', bne_iff_ne, ne_eq]
        refine ⟨(p, j), ⟨by rw [List.mem_zipIdx_iff_getElem?]; simpa using hj, ⟨fun e => hne e.symm, ?_⟩, ?_⟩, rfl⟩
        · unfold Bef at hb1; simpa using hb1
        · unfold Bef at hb2; simpa using hb2
      have fin : ∀ (s1 : St) (d : D), S (a + m + 1) = s1.put o.dst d → Calm all (a + m) (S (a + m)).t → Red ((S (a + m)).t.getD t Zaw) (s1.t.getD t Zaw) →
          (t ∈ Zjo all p → (S (a + (m + 1))).t.getD t Zaw = (S a).t.getD t Zaw) ∧
          (t ∈ Zln p → ((S (a + (m + 1))).t.getD t Zaw = (S a).t.getD t Zaw) ∨ (cpD ((S (a + (m + 1))).t.getD t Zaw) = cpD ((S a).t.getD t Zaw) ∧ excD ((S a).t.getD t Zaw) = false)) := by
        intro s1 d e hcalm hred
        have e1 : (S (a + (m + 1))).t.getD t Zaw = s1.t.getD t Zaw := by
          rw [← Nat.add_assoc, e]; exact Zsz (Zjx _ _ hnw)
        refine ⟨fun h => ?_, fun h => .inr ?_⟩
        · rw [e1, hred.1 (hcalm.1 p hbes t h)]; exact ih1 h
        · have he := hcalm.2 p hbes t h
          rw [e1, hred.2 he]
          rcases ih2 h with h' | h'
          · rw [h'] at he ⊢; exact ⟨rfl, he⟩
          · exact h'
      rcases hS _ o ho with hok | e
      rotate_left
      · have e1 : (S (a + (m + 1))).t.getD t Zaw = (S (a + m)).t.getD t Zaw := by rw [← Nat.add_assoc, e]
        rw [e1]; exact ⟨ih1, ih2⟩
      cases hok with
      | skip hw e =>
        have e1 : (S (a + (m + 1))).t.getD t Zaw = (S (a + m)).t.getD t Zaw := by
          rw [← Nat.add_assoc, e]; exact Zsz (Zjx _ _ hnw)
        rw [e1]; exact ⟨ih1, ih2⟩
      | light d hw hh hx e hr =>
        have e1 : (S (a + (m + 1))).t.getD t Zaw = (S (a + m)).t.getD t Zaw := by
          rw [← Nat.add_assoc, e]; exact Zsz (Zjx _ _ hnw)
        rw [e1]; exact ⟨ih1, ih2⟩
      | oper d s1 hw hh hcalm hk hx e => exact fin s1 d e hcalm ((Zp8 hh hx).red t)
      | call d s1 g args rc hw hh hcalm hk hm' hv e => exact fin _ d e hcalm ((Zqv hk).1.red t)
    · have e1 : (S (a + (m + 1))).t.getD t Zaw = (S (a + m)).t.getD t Zaw := by
        rw [← Nat.add_assoc]; exact Zsz (step_far hS (by omega) hT)
      rw [e1]; exact ⟨ih1, ih2⟩
structure Inv (all : Array Oper) (S : Nat → St) (D : Nat → Prop) (c : St) : Prop where
  len : c.t.length = (S 0).t.length
  slot : ∀ t k, k ≤ all.size → (∀ i, Tch all i t → (D i ↔ i < k)) → c.t[t]? = (S k).t[t]?
  mem : ∀ k, k ≤ all.size → (∀ i, Hv all i → (D i ↔ i < k)) → c.h = (S k).h ∧ c.d = (S k).d ∧ c.r = (S k).r
theorem tch_lt {i t : Nat} (h : Tch all i t) : i < all.size := by obtain ⟨o, ho, _⟩ := h; exact (Array.getElem?_eq_some_iff.1 ho).1
theorem hv_lt {i : Nat} (h : Hv all i) : i < all.size := by obtain ⟨o, ho, _⟩ := h; exact (Array.getElem?_eq_some_iff.1 ho).1
section
variable (hp : Plan all) (hS : ∀ (j : Nat) o, all[j]? = some o → StepW P all S j o) {D : Nat → Prop} (hD : ∀ j, D j → ∀ i, Bef all j i → D i) {c : St} (hI : Inv all S D c) {j : Nat} (hj : j < all.size) (hn : ¬ D j) (hb : ∀ i, Bef all j i → D i)
  include hp hS hD hI hj hn hb
theorem Zw9 {t : Nat} (ht : Tch all j t) : c.t[t]? = (S j).t[t]? := by
  have _ := hS
  refine hI.slot t j (by omega) (fun i hi => ⟨fun h => ?_, fun h => hb i (Zpl hp hi ht h)⟩)
  rcases Yag i j with h' | h'
  · exact h'
  · exfalso
    have : i ≠ j := fun e => hn (e ▸ h)
    exact hn (hD i h j (Zpl hp ht hi (by omega)))
theorem Zvm (hh : Hv all j) : c.h = (S j).h ∧ c.d = (S j).d ∧ c.r = (S j).r := by
  have _ := hS
  refine hI.mem j (by omega) (fun i hi => ⟨fun h => ?_, fun h => hb i (Zrr hp hi hh h)⟩)
  rcases Yag i j with h' | h'
  · exact h'
  · exfalso
    have : i ≠ j := fun e => hn (e ▸ h)
    exact hn (hD i h j (Zrr hp hh hi (by omega)))
theorem inv_step {c' : St} (hl : c'.t.length = c.t.length) (h1 : ∀ t, ¬ Tch all j t → c'.t[t]? = c.t[t]?) (h2 : ∀ t, Tch all j t → c'.t[t]? = (S (j + 1)).t[t]?)
    (h3 : Hv all j → c'.h = (S (j + 1)).h ∧ c'.d = (S (j + 1)).d ∧ c'.r = (S (j + 1)).r) (h4 : ¬ Hv all j → c'.h = c.h ∧ c'.d = c.d ∧ c'.r = c.r) : Inv all S (fun i => D i ∨ i = j) c' := by
  have _ := hj
  have _ := hb
  refine ⟨hl.trans hI.len, fun t k hk hc => ?_, fun k hk hc => ?_⟩
  · by_cases ht : Tch all j t
    · rw [h2 t ht]
      have hjk : j < k := (hc j ht).1 (.inr rfl)
      have := far_all hS (t := t) (a := j + 1) (k - (j + 1)) (by omega) (fun i ha hb' hi => by
        have : D i ∨ i = j := (hc i hi).2 (by omega)
        rcases this with h | h
        · exact hn (hD i h j (Zpl hp ht hi (by omega)))
        · omega)
      rw [show j + 1 + (k - (j + 1)) = k from by omega] at this
      exact this.symm
    · rw [h1 t ht]
      exact hI.slot t k hk (fun i hi => by
        have hne : i ≠ j := fun e => ht (e ▸ hi)
        rw [← hc i hi]; simp [hne])
  · by_cases ht : Hv all j
    · have hjk : j < k := (hc j ht).1 (.inr rfl)
      have := Zyq hS (a := j + 1) (k - (j + 1)) (by omega) (fun i ha hb' hi => by
        have : D i ∨ i = j := (hc i hi).2 (by omega)
        rcases this with h | h
        · exact hn (hD i h j (Zrr hp ht hi (by omega)))
        · omega)
      rw [show j + 1 + (k - (j + 1)) = k from by omega] at this
      obtain ⟨a1, a2, a3⟩ := h3 ht
      exact ⟨a1.trans this.1.symm, a2.trans this.2.1.symm, a3.trans this.2.2.symm⟩
    · obtain ⟨a1, a2, a3⟩ := h4 ht
      obtain ⟨b1, b2, b3⟩ := hI.mem k hk (fun i hi => by
        have hne : i ≠ j := fun e => ht (e ▸ hi)
        rw [← hc i hi]; simp [hne])
      exact ⟨a1.trans b1, a2.trans b2, a3.trans b3⟩
theorem look {p : Oper} (ho : all[j]? = some p) {t : Nat} (htn : t ∈ Zix all p) : (t ∈ Zjo all p → c.t.getD t Zaw = (S j).t.getD t Zaw) ∧
    (t ∈ Zln p → excD ((S j).t.getD t Zaw) = false → cpD (c.t.getD t Zaw) = cpD ((S j).t.getD t Zaw)) := by
  obtain ⟨k, hk, hs⟩ := sep (all := all) (T := fun i => Tch all i t) (D := D) (fun i j hi hj h => Zpl hp hi hj h) hD all.size
  have hs' : ∀ i, Tch all i t → (D i ↔ i < k) := fun i hi => hs i (tch_lt hi) hi
  have e := Zsz (hI.slot t k hk hs')
  rw [e]
  rcases Yag j k with hlt | hge
  · have := see hp hS ho htn (a := j) (k - j) (by omega) (fun i h1 h2 hT => by
      have hDi : D i := (hs' i hT).2 (by omega)
      have hne : i ≠ j := fun e => hn (e ▸ hDi)
      exact ⟨hne, fun hB => hn (hD i hDi j hB), fun hB => by have := bef_lt hp j i hB; omega⟩)
    rw [show j + (k - j) = k from by omega] at this
    refine ⟨this.1, fun h _ => ?_⟩
    rcases this.2 h with h' | h'
    · rw [h']
    · exact h'.1
  · have := see hp hS ho htn (a := k) (j - k) (by omega) (fun i h1 h2 hT => by
      have hDi : ¬ D i := fun h => by have := (hs' i hT).1 h; omega
      exact ⟨by omega, fun hB => by have := bef_lt hp i j hB; omega, fun hB => hDi (hb i hB)⟩)
    rw [show k + (j - k) = j from by omega] at this
    refine ⟨fun h => (this.1 h).symm, fun h _ => ?_⟩
    rcases this.2 h with h' | h'
    · rw [h']
    · exact h'.1.symm
theorem Zwd {o : Oper} (ho : all[j]? = some o) : want all o c = want all o (S j) := by
  unfold want
  cases hg : o.guard with
  | none => rfl
  | some g =>
    obtain ⟨g, b⟩ := g
    simp only
    cases hd : (all[g]?).bind (·.dst) with
    | none => rfl
    | some t =>
      simp only
      have hr : t ∈ Zjo all o := by simp [Zjo, hg, hd]
      have hnm : t ∈ Zix all o := by simp [Zix, hg, hd]
      have h1 := (look hp hS hD hI hj hn hb ho hnm).1 hr
      have hl : c.t.length = (S j).t.length := hI.len.trans (Zvq hS j (by omega)).symm
      have : c.t[t]? = (S j).t[t]? := by
        rcases Yag t c.t.length with hlt | hge
        · have hlt2 : t < (S j).t.length := hl ▸ hlt
          rw [List.getD_eq_getElem?_getD, List.getD_eq_getElem?_getD, Ya4 hlt, Ya4 hlt2] at h1
          rw [Ya4 hlt, Ya4 hlt2]
          simpa using h1
        · rw [List.getElem?_eq_none hge, List.getElem?_eq_none (hl ▸ hge)]
      rw [this]
theorem light_look {o : Oper} {d : Abs.D} (ho : all[j]? = some o) (hw : want all o (S j) = true) (hh : heavy o.op = false) (hx : Zee P o (S j) = some d)
    (hr : Zmg o.op = true → ∀ k, k ≤ all.size → (∀ i, EH all S i → k ≤ i → i < j → ¬ Bef all j i) → (∀ i, EH all S i → j ≤ i → i < k → ¬ Bef all i j) →
        Zee P o { t := (S j).t, d := [], r := .no, h := (S k).h } = some d) : Zee P o c = some d := by
  have hop : ∀ t, t ∈ opTs o.op → t ∈ Zix all o := fun t h => Zlf h
  have hex : ∀ t, o.op = .move (.tmp t) → excD ((S j).t.getD t Zaw) = false := by
    intro t hm
    unfold Zee at hx
    simp only [hm] at hx
    cases he : excD ((S j).t.getD t Zaw) with
    | false => rfl
    | true => rw [he] at hx; simp at hx
  have hal : ∀ h, Zxt o { t := (S j).t, d := [], r := .no, h := h } c := by
    intro h
    unfold Zxt
    split
    · rename_i t hm
      exact (look hp hS hD hI hj hn hb ho (hop t (by simp [opTs, hm, Op.operands, Zyp]))).2 (by simp [Zln, hm]) (hex t hm)
    · rename_i op hnm
      intro t ht
      refine (look hp hS hD hI hj hn hb ho (hop t ht)).1 ?_
      simp only [Zjo, List.mem_append]
      left
      split
      · rename_i x hm
        cases x with
        | tmp u => exact absurd hm (hnm u)
        | _ => rw [hm] at ht; simp [opTs, Op.operands, Zyp] at ht
      · exact ht
  by_cases hrd : Zmg o.op = true
  · obtain ⟨k, hk, hs⟩ := sep (all := all) (T := Hv all) (D := D) (fun i j hi hj h => Zrr hp hi hj h) hD all.size
    have hs' : ∀ i, Hv all i → (D i ↔ i < k) := fun i hi => hs i (hv_lt hi) hi
    have hm := (hI.mem k hk hs').1
    have := hr hrd k hk (fun i hE h1 h2 hB => by
        obtain ⟨o', q1, q2, _⟩ := hE
        have := (hs' i ⟨o', q1, q2⟩).1 (hb i hB); omega) (fun i hE h1 h2 hB => by
        obtain ⟨o', q1, q2, _⟩ := hE
        exact hn (hD i ((hs' i ⟨o', q1, q2⟩).2 h2) j hB))
    exact Zvp this (hal _) (.inl hm)
  · exact Zvp (Zqt hx) (hal _) (.inr (by simpa using hrd))
end
theorem mo_one (hp : Plan all) (hS : ∀ (j : Nat) o, all[j]? = some o → StepW P all S j o) {D : Nat → Prop} (hD : ∀ j, D j → ∀ i, Bef all j i → D i) {c : St} (hI : Inv all S D c) {j : Nat} (hj : j < all.size) (hn : ¬ D j) (hb : ∀ i, Bef all j i → D i)
    {o : Oper} (ho : all[j]? = some o) (hok : StepOK P all S j o) {rest : List Oper} {r : X × St} (ih : ∀ c', Inv all S (fun i => D i ∨ i = j) c' → MO P all rest c' r) : MO P all (o :: rest) c r := by
  have hw := Zwd hp hS hD hI hj hn hb ho
  have hlen : c.t.length = (S j).t.length := hI.len.trans (Zvq hS j (by omega)).symm
  have hput : ∀ d, S (j + 1) = (S j).put o.dst d → (Hv all j → S (j + 1) = (S j).put o.dst d) → Inv all S (fun i => D i ∨ i = j) (c.put o.dst d) := by
    intro d e _
    refine inv_step hp hS hD hI hj hn hb (Zqp _ _ _) (fun t ht => Zjx _ _ (fun h => ht ⟨o, ho, .inl h⟩)) (fun t ht => ?_) (fun hh => ?_) (fun _ => by rw [Zrd, Zy6, Zse]; exact ⟨rfl, rfl, rfl⟩)
    · rw [e]
      by_cases hd : o.dst = some t
      · rw [hd]; exact put_near _ _ hlen t d
      · rw [Zjx _ _ hd, Zjx _ _ hd]; exact Zw9 hp hS hD hI hj hn hb ht
    · rw [e, Zrd, Zy6, Zse, Zrd, Zy6, Zse]; exact Zvm hp hS hD hI hj hn hb hh
  have hbig : ∀ d (s1 c1 : St), S (j + 1) = s1.put o.dst d → heavy o.op = true → Both (opTs o.op) (S j) c s1 c1 → Inv all S (fun i => D i ∨ i = j) (c1.put o.dst d) := by
    intro d s1 c1 e hh hB
    refine inv_step hp hS hD hI hj hn hb ((Zqp _ _ _).trans hB.r.len) (fun t ht => ?_) (fun t ht => ?_) (fun _ => ?_) (fun h => absurd ⟨o, ho, hh⟩ h)
    · rw [Zjx _ _ (fun h => ht ⟨o, ho, .inl h⟩)]
      exact hB.r.far t (fun h => ht ⟨o, ho, .inr ⟨hh, Zlf h⟩⟩)
    · rw [e]
      by_cases hd : o.dst = some t
      · rw [hd]; exact (put_near _ _ hB.ag.t.1 t d).symm
      · rw [Zjx _ _ hd, Zjx _ _ hd]
        by_cases hm : t ∈ opTs o.op
        · exact (hB.ag.t.2 t hm).symm
        · rw [hB.r.far t hm, hB.l.far t hm]; exact Zw9 hp hS hD hI hj hn hb ht
    · rw [e, Zrd, Zy6, Zse, Zrd, Zy6, Zse]; exact ⟨hB.ag.h.symm, hB.ag.d.symm, hB.ag.r.symm⟩
  have hag : heavy o.op = true → Ag (opTs o.op) (S j) c := by
    intro hh
    obtain ⟨m1, m2, m3⟩ := Zvm hp hS hD hI hj hn hb ⟨o, ho, hh⟩
    exact ⟨m1.symm, m2.symm, m3.symm, hlen.symm, fun t ht => (Zw9 hp hS hD hI hj hn hb ⟨o, ho, .inr ⟨hh, Zlf ht⟩⟩).symm⟩
  cases hok with
  | skip hw' e => exact mo_skip (by rw [hw]; exact hw') (ih _ (hput _ e (fun _ => e)))
  | light d hw' hh hx e hr =>
    exact mo_val (rest' := []) (by rw [hw]; exact hw') (light_op (light_look hp hS hD hI hj hn hb ho hw' hh hx hr)) (ih _ (hput _ e (fun _ => e)))
  | oper d s1 hw' hh hc hk hx e =>
    obtain ⟨c1, k1, k2⟩ := heavy_ag hh (hag hh) hx
    exact mo_val (rest' := []) (by rw [hw]; exact hw') k1 (ih _ (hbig d s1 c1 e hh k2))
  | call d s1 g args rc hw' hh hc hk hm hv e =>
    obtain ⟨c1, k1, k2⟩ := Zyu (hag hh) hk
    refine mo_go (by rw [hw]; exact hw') k1 (rc := rc) (by rw [← k2.ag.h]; exact hm) (.inl ⟨d, hv, ih _ (hbig d { s1 with h := rc.2 } { c1 with h := rc.2 } e hh (k2.mem _))⟩)
theorem grow {D : Nat → Prop} {j : Nat} (hD : ∀ j, D j → ∀ i, Bef all j i → D i) (hb : ∀ i, Bef all j i → D i) : ∀ k, (D k ∨ k = j) → ∀ i, Bef all k i → (D i ∨ i = j) := by
  intro k hk i hB
  rcases hk with hk | rfl
  · exact .inl (hD k hk i hB)
  · exact .inl (hb i hB)
theorem mo_lin (hp : Plan all) (hS : ∀ (j : Nat) o, all[j]? = some o → StepOK P all S j o) {D : Nat → Prop} {σ : List Nat} (hl : Lin all D σ) : (∀ j, D j → ∀ i, Bef all j i → D i) → ∀ c, Inv all S D c →
    MO P all (σ.filterMap fun i => all[i]?) c (.nrm, S all.size) := by
  induction hl with
  | nil D h =>
    intro hD c hI
    have : c = S all.size := by
      obtain ⟨m1, m2, m3⟩ := hI.mem all.size (Yab _) (fun i hi => ⟨fun _ => hv_lt hi, fun _ => h i (hv_lt hi)⟩)
      have ht : c.t = (S all.size).t := by
        apply List.ext_getElem?
        intro t
        exact hI.slot t all.size (Yab _) (fun i hi => ⟨fun _ => tch_lt hi, fun _ => h i (tch_lt hi)⟩)
      cases c; cases hSn : S all.size; rw [hSn] at m1 m2 m3 ht
      simp only at m1 m2 m3 ht
      subst m1; subst m2; subst m3; subst ht; rfl
    rw [this]
    exact mo_nil
  | cons D j σ hj hn hb t ih =>
    intro hD c hI
    have ho : all[j]? = some all[j] := Array.getElem?_eq_getElem hj
    generalize all[j] = o at ho
    have hfm : (j :: σ).filterMap (fun i => all[i]?) = o :: σ.filterMap (fun i => all[i]?) := by simp [ho]
    rw [hfm]
    exact mo_one hp (fun j o h => .ok (hS j o h)) hD hI hj hn hb ho (hS j o ho) (fun c' hI' => ih (grow hD hb) c' hI')
theorem MO.blank {l : List Oper} {c s' : St} {d : Abs.D} (h : MO P all l c (.pan d, s')) (hd : s'.d = []) : MO P all l c (.pan d, { t := [], d := [], r := s'.r, h := s'.h }) := by
  intro F w G tm df k cs is his h'
  obtain ⟨w', G', tm', df', cs', ⟨k2, v, tX, _, h0, h1, h2, h3⟩, ok, to⟩ := h F w G tm df k cs is his h'
  have hz : ∀ b, cntS w' G' [] [] [] { t := [], d := [], r := s'.r, h := s'.h } b ≤ cntS w' G' tm' [] [] s' b := fun b => by simp only [cntS, sumZ]; omega
  refine ⟨w', G', [], df', cs', ⟨k2, v, tX, fun h => absurd rfl h, h0, h1, h2, h3⟩, ⟨{ L := .nil _ _, P := ok.rel.P, len := ok.rel.len, nd := ok.rel.nd, obS := ok.rel.obS, H := ok.rel.H, S := ok.rel.S, dfr := by have := ok.rel.dfr; rw [hd] at this; exact this, one := ?_, noob := ?_ }, ok.rc, ok.mks⟩,
    ⟨to.ext.weaken (fun b => Yab _) (fun b hb => Nat.le_trans (Nat.add_le_add_right (hz b) _) (to.ext.cnt b hb)), to.cs, to.ro⟩⟩
  · intro b; have := ok.rel.one b; simp only [sumZ] at *; omega
  · intro b hb; have := ok.rel.noob b hb; simp only [sumZ] at *; omega
theorem mo_lin_pan (hp : Plan all) {p : Nat} {r : X × St} (hpp : p < all.size) (hP : PanAt P all S p r) (hS : ∀ (j : Nat) o, j < p → all[j]? = some o → StepOK P all S j o) {D : Nat → Prop} {σ : List Nat} (hl : Lin all D σ) :
    (∀ j, D j → ∀ i, Bef all j i → D i) → ¬ D p → ∀ c, Inv all S D c → MO P all (σ.filterMap fun i => all[i]?) c r := by
  obtain ⟨o0, d, s1, g, args, rc, ho0, hw0, hh0, hk0, hm0, hv0, hd0, hr, hbef, hconst⟩ := hP
  have hW : ∀ (j : Nat) o, all[j]? = some o → StepW P all S j o := by
    intro j o ho
    by_cases hjp : j < p
    · exact .ok (hS j o hjp ho)
    · exact .odd (by rw [hconst (j + 1) (by omega), hconst j (by omega)])
  induction hl with
  | nil D h => intro hD hnp; exact absurd (h p hpp) hnp
  | cons D j σ hj hn hb t ih =>
    intro hD hnp c hI
    have ho : all[j]? = some all[j] := Array.getElem?_eq_getElem hj
    generalize all[j] = o at ho
    have hfm : (j :: σ).filterMap (fun i => all[i]?) = o :: σ.filterMap (fun i => all[i]?) := by simp [ho]
    rw [hfm]
    rcases Nat.lt_trichotomy j p with hjp | hjp | hjp
    · exact mo_one hp hW hD hI hj hn hb ho (hS j o hjp ho) (fun c' hI' => ih (grow hD hb) (fun h => h.elim hnp (fun e => by omega)) c' hI')
    · subst hjp
      rw [ho0] at ho; cases ho
      have hw := Zwd hp hW hD hI hj hn hb ho0
      have hlen : c.t.length = (S j).t.length := hI.len.trans (Zvq hW j (by omega)).symm
      obtain ⟨m1, m2, m3⟩ := Zvm hp hW hD hI hj hn hb ⟨o0, ho0, hh0⟩
      have hag : Ag (opTs o0.op) (S j) c := ⟨m1.symm, m2.symm, m3.symm, hlen.symm, fun t ht => (Zw9 hp hW hD hI hj hn hb ⟨o0, ho0, .inr ⟨hh0, Zlf ht⟩⟩).symm⟩
      obtain ⟨c1, k1, k2⟩ := Zyu hag hk0
      have h1 : MO P all (o0 :: σ.filterMap fun i => all[i]?) c (.pan d, { c1 with h := rc.2 }) := mo_go (by rw [hw]; exact hw0) k1 (rc := rc) (by rw [← k2.ag.h]; exact hm0) (.inr ⟨d, hv0, rfl⟩)
      have h2 := MO.blank h1 (by show c1.d = []; rw [← k2.ag.d]; exact hd0)
      rw [hr]
      have e : c1.r = s1.r := k2.ag.r.symm
      simp only [e] at h2
      exact h2
    · exact absurd (hb p (hbef j hjp hj)) hnp
end
end Go.Abs
namespace Go.Abs
section
variable {P : Program} {F : Fr} {w : World} {G : Gh} {tm : List Value} {df : List Deferred} {k : List Item} {cs : List Frame} {s : St}
theorem seal_one (h : RelSt w G tm df [] [] s) (t : Tmp) (hn : notTup (s.t.getD t Zaw) = true) :
    ∃ G', RelSt w G' tm df [] [] { s with t := s.t.set t (kep (s.t.getD t Zaw)) } ∧ Ext w G (cntS w G tm [] [] s) w G' (cntS w G' tm [] [] { s with t := s.t.set t (kep (s.t.getD t Zaw)) }) := by
  cases ho : ownD (s.t.getD t Zaw) with
  | false =>
    have hk := (Zvr ho hn).1
    rw [hk, Zm9]
    exact ⟨G, h, .refl _ _ _⟩
  | true =>
    have hsh : sh s (.tmp t) = some (shr (s.t.getD t Zaw), { s with t := s.t.set t (kep (s.t.getD t Zaw)) }) := by
      simp only [sh, ho, if_true]
      cases hd : s.t.getD t Zaw <;> simp_all [notTup]
    obtain ⟨G2, m1, m2, m3, _⟩ := Zon h hsh
    exact ⟨G2, m1.drop, m3.weaken (fun b => Yab _) (fun b hb => Nat.le_trans (Zh3 b) (m3.cnt b hb))⟩
theorem seal_ops : ∀ (ops : List Oper) {G : Gh} {s : St}, RelSt w G tm df [] [] s →
    ∃ G', RelSt w G' tm df [] [] (Zh5 ops s) ∧ Ext w G (cntS w G tm [] [] s) w G' (cntS w G' tm [] [] (Zh5 ops s)) ∧ (Zh5 ops s).r = s.r ∧ (Zh5 ops s).d = s.d
  | [], G, s, h => ⟨G, h, .refl _ _ _, rfl, rfl⟩
  | o :: ops, G, s, h => by
    have : ∃ s1 : St, Zh5 (o :: ops) s = Zh5 ops s1 ∧ s1.r = s.r ∧ s1.d = s.d ∧ ∃ G', RelSt w G' tm df [] [] s1 ∧ Ext w G (cntS w G tm [] [] s) w G' (cntS w G' tm [] [] s1) := by
      simp only [Zh5, List.foldl_cons]
      refine ⟨_, rfl, ?_, ?_, ?_⟩
      · split
        · split <;> rfl
        · rfl
      · split
        · split <;> rfl
        · rfl
      · split
        · rename_i t hop
          split
          · exact ⟨G, h, .refl _ _ _⟩
          · rename_i hnt
            exact seal_one h t (by cases hd : s.t.getD t Zaw <;> simp_all [notTup])
        · exact ⟨G, h, .refl _ _ _⟩
    obtain ⟨s1, e, e1, e2, G1, h1, x1⟩ := this
    obtain ⟨G2, h2, x2, e3, e4⟩ := seal_ops ops h1
    rw [e]
    exact ⟨G2, h2, x1.trans x2, e3.trans e1, e4.trans e2⟩
theorem go_draw {id : Nat} {ops : Array Oper} : ∃ t, step P (lone (mkF F tm df (.code (.region id ops true) :: k)) cs w) = .next (lone (mkF F tm df (.inRegion ops (Region.schedule (P.follows .mixedOrders) ops t) :: k)) cs w.drew) := by
  exact ⟨w.tape w.drawn (.order F.fn id), step_lone_go (by simp [stepG, stepG.exec, mkF, choose, Sem.run, Question.forced, Question.cut])⟩
theorem me_draw (hmix : P.follows .mixedOrders = true) {fn : FuncId} {id : Nat} {ops : Array Oper} {plan : List Todo} {r : Abs.X × St} (hp : Zh4 ops = some plan) (ht : Tr P ops plan [] [] (Zh5 ops.toList s) r) : ME P fn (.region id ops true) s r := by
  have hpl : Plan ops := by
    unfold Zh4 at hp
    split at hp
    · rename_i h; exact plan_of h
    · simp at hp
  obtain ⟨S, e1, hres, _⟩ := tr_run hp ht 0 (fun _ => Zh5 ops.toList s) (by simp) (by omega) rfl ⟨fun i hi => absurd hi (by omega), fun i hi => absurd hi (by omega), fun a ha => by simp at ha⟩
  have hW : ∀ (j : Nat) o, ops[j]? = some o → StepW P ops S j o := by
    intro j o ho
    rcases hres with ⟨_, hS'⟩ | ⟨p, _, _, ⟨_, _, _, _, _, _, _, _, _, _, _, _, _, _, _, hconst⟩, hS'⟩
    · exact .ok (hS' j o (by omega) ho)
    · by_cases hjp : j < p
      · exact .ok (hS' j o (by omega) hjp ho)
      · exact .odd (by rw [hconst (j + 1) (by omega), hconst j (by omega)])
  refine .of (by simp) fun F w G tm df k cs hF h' => ?_
  obtain ⟨t, hst⟩ := go_draw (P := P) (F := F) (tm := tm) (df := df) (k := k) (cs := cs) (w := w) (id := id) (ops := ops)
  obtain ⟨a1, a2⟩ := h'.rel.drew
  obtain ⟨G1, b1, b2, b3, b4⟩ := seal_ops ops.toList a1
  have hlin := Zx7 hpl t
  rw [← hmix] at hlin
  have hS0 : S 0 = Zh5 ops.toList s := e1 0 (Yab _)
  have hI : Inv ops S (fun _ => False) (Zh5 ops.toList s) := by
    refine ⟨by rw [hS0], fun t k hk hc => ?_, fun k hk hc => ?_⟩
    · have := far_all hW (t := t) (a := 0) k (by omega) (fun i _ h2 hi => ((hc i hi).2 (by omega)).elim)
      rw [Nat.zero_add, hS0] at this; exact this.symm
    · have := Zyq hW (a := 0) k (by omega) (fun i _ h2 hi => ((hc i hi).2 (by omega)).elim)
      rw [Nat.zero_add, hS0] at this; exact ⟨this.1.symm, this.2.1.symm, this.2.2.symm⟩
  have hmo : MO P ops ((Region.schedule (P.follows .mixedOrders) ops t).filterMap fun i => ops[i]?) (Zh5 ops.toList s) r := by
    rcases hres with ⟨e2, hS'⟩ | ⟨p, _, hpp, hPA, hS'⟩
    · rw [e2]; exact mo_lin hpl (fun j o ho => hS' j o (by omega) ho) hlin (fun j h => h.elim) _ hI
    · exact mo_lin_pan hpl hpp hPA (fun j o hjp ho => hS' j o (by omega) hjp ho) hlin (fun j h => h.elim) (fun h => h) _ hI
  have hall : ∀ {D : Nat → Prop} {σ : List Nat}, Lin ops D σ → ∀ i ∈ σ, i < ops.size := by
    intro D σ h
    induction h with
    | nil => simp
    | cons D j σ hj hn hb t ih =>
      intro i hi
      rcases List.mem_cons.1 hi with rfl | hi
      · exact hj
      · exact ih i hi
  have his : (Region.schedule (P.follows .mixedOrders) ops t).map (fun i => ops[i]?) = ((Region.schedule (P.follows .mixedOrders) ops t).filterMap fun i => ops[i]?).map some := by
    have := hall hlin
    generalize Region.schedule (P.follows .mixedOrders) ops t = σ at this
    induction σ with
    | nil => rfl
    | cons i σ ih =>
      have hi := this i (by simp)
      simp only [List.map_cons, List.filterMap_cons, Array.getElem?_eq_getElem hi]
      rw [ih (fun j hj => this j (by simp [hj]))]
  have hr : (Zh5 ops.toList s).r = s.r := b3
  obtain ⟨w2, G2, tm2, df2, cs2, c1, c2, c3⟩ := hmo F w.drew G1 tm df k cs _ his ⟨b1, by rw [hr]; exact h'.rc.keep (a2.trans b2).later, h'.mks⟩
  refine ⟨w2, G2, tm2, df2, cs2, c1.of_steps (.one hst), c2, ?_⟩
  have t1 : To F w G tm df cs s w.drew G1 tm df cs (Zh5 ops.toList s) :=
    ⟨(a2.trans b2).weaken (fun b => by omega) (fun b hb => by have := (a2.trans b2).cnt b hb; omega), by rw [hr]; exact .refl _ _, fun _ => rfl⟩
  exact t1.trans c3
end
end Go.Abs
