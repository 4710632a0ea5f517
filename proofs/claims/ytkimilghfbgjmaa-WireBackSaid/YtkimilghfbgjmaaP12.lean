/-
  REGIONS WHOSE ORDER IS OPEN: what the evaluator's run in the order of the text tells. REGIONS WHOSE ORDER IS OPEN: in whatever order, the machine comes to where the evaluator comes. REGIONS WHOSE ORDER IS OPEN: the whole. WHAT THE EVALUATOR SAYS IS SO: all pieces together. The condition: what is said of the given functions (pr). No condition.
-/
import Derived.Test.YtkimilghfbgjmaaP05
import Derived.Test.YtkimilghfbgjmaaP11

namespace Go.Abs

/-- The evaluator's run. -/
inductive Tr (P : Program) (all : Array Oper) : List Todo → List (Nat × List O) → List Again → St → X × St → Prop where
  | nil (hs ag s) : Tr P all [] hs ag s (.nrm, s)
  | skip (td rest hs ag s o r) (ho : all[td.i]? = some o) (hw : want all o s = false) (t : Tr P all rest hs ag (s.put o.dst Zav) r) : Tr P all (td :: rest) hs ag s r
  | light (td rest hs ag s o r d) (ho : all[td.i]? = some o) (hw : want all o s = true) (hh : td.hv = false) (hr : td.rds = false) (hx : Zdp P o s = some d)
      (t : Tr P all rest hs ag (s.put o.dst d) r) : Tr P all (td :: rest) hs ag s r
  | read (td rest hs ag s o r d) (ho : all[td.i]? = some o) (hw : want all o s = true) (hh : td.hv = false) (hx : Zdp P o s = some d) (hb : Ziz P o td.bf s.t d hs)
      (t : Tr P all rest hs ({ i := td.i, o := o, t := s.t, d := d } :: ag) (s.put o.dst d) r) : Tr P all (td :: rest) hs ag s r
  | oper (td rest hs ag s o r d s1) (ho : all[td.i]? = some o) (hw : want all o s = true) (hh : td.hv = true) (hc : calmAt td s.t = true) (hk : Zfb o s = .other) (hx : exOp P [] o s = some (.val d, s1))
      (ha : Zis P td.bf s1.h ag) (t : Tr P all rest ((td.i, s.h) :: hs) ag (s1.put o.dst d) r) : Tr P all (td :: rest) hs ag s r
  | call (td rest hs ag s o r d s1 g args rc) (ho : all[td.i]? = some o) (hw : want all o s = true) (hh : td.hv = true) (hc : calmAt td s.t = true) (hk : Zfb o s = .go g args s1) (hm : MC P g args s1.h rc) (hv : rc.1 = .val d)
      (ha : Zis P td.bf rc.2 ag) (t : Tr P all rest ((td.i, s.h) :: hs) ag (({ s1 with h := rc.2 } : St).put o.dst d) r) : Tr P all (td :: rest) hs ag s r

/-- A heavy one that is done. -/
def EH (all : Array Oper) (S : Nat → St) (i : Nat) : Prop := ∃ o, all[i]? = some o ∧ heavy o.op = true ∧ want all o (S i) = true

/-- The look of a heavy one at what it must not disturb. -/
def Calm (all : Array Oper) (i : Nat) (t : List D) : Prop :=
  (∀ p ∈ besides all i, ∀ x ∈ Zj0 all p, ownD (t.getD x Zav) = false) ∧ (∀ p ∈ besides all i, ∀ x ∈ moveNames p, excD (t.getD x Zav) = false)

inductive StepOK (P : Program) (all : Array Oper) (S : Nat → St) (j : Nat) (o : Oper) : Prop where
  | skip (hw : want all o (S j) = false) (e : S (j + 1) = (S j).put o.dst Zav)
  | light (d : D) (hw : want all o (S j) = true) (hh : heavy o.op = false) (hx : Zdp P o (S j) = some d) (e : S (j + 1) = (S j).put o.dst d)
      (hr : reads o.op = true → ∀ k, k ≤ all.size → (∀ i, EH all S i → k ≤ i → i < j → ¬ Bef all j i) → (∀ i, EH all S i → j ≤ i → i < k → ¬ Bef all i j) →
        Zdp P o { t := (S j).t, d := [], r := .no, h := (S k).h } = some d)
  | oper (d : D) (s1 : St) (hw : want all o (S j) = true) (hh : heavy o.op = true) (hc : Calm all j (S j).t) (hk : Zfb o (S j) = .other) (hx : exOp P [] o (S j) = some (.val d, s1)) (e : S (j + 1) = s1.put o.dst d)
  | call (d : D) (s1 : St) (g : Tgt) (args : List D) (rc : Out × List O) (hw : want all o (S j) = true) (hh : heavy o.op = true) (hc : Calm all j (S j).t) (hk : Zfb o (S j) = .go g args s1) (hm : MC P g args s1.h rc) (hv : rc.1 = .val d)
      (e : S (j + 1) = ({ s1 with h := rc.2 } : St).put o.dst d)

theorem put_h (s : St) (dst : Option Tmp) (d : D) : (s.put dst d).h = s.h := by cases dst <;> rfl
theorem put_d (s : St) (dst : Option Tmp) (d : D) : (s.put dst d).d = s.d := by cases dst <;> rfl

/-- A light one tells no deferred calls and no recover. -/
theorem light_bare {P : Program} {o : Oper} {s : St} {d : D} (hx : Zdp P o s = some d) : Zdp P o { t := s.t, d := [], r := .no, h := s.h } = some d :=
  light_ag hx (by unfold Alight; split <;> first | rfl | exact fun _ _ => rfl) (.inl rfl)

/-- What is known of a read, from its place on. -/
def Good (P : Program) (all : Array Oper) (S : Nat → St) (m : Nat) (a : Again) : Prop :=
  ∀ k, a.i ≤ k → k ≤ m → (∀ i, EH all S i → a.i ≤ i → i < k → ¬ Bef all i a.i) → Zdp P a.o { t := a.t, d := [], r := .no, h := (S k).h } = some a.d

theorem EH.congr {all : Array Oper} {S S' : Nat → St} {i : Nat} (h : S i = S' i) : EH all S i ↔ EH all S' i := by unfold EH; rw [h]

def upd (S : Nat → St) (j : Nat) (s : St) : Nat → St := fun i => if i ≤ j then S i else s

structure Before (P : Program) (all : Array Oper) (S : Nat → St) (j : Nat) (hs : List (Nat × List O)) (ag : List Again) : Prop where
  heavy : ∀ i, i < j → EH all S i → (i, (S i).h) ∈ hs
  same : ∀ i, i < j → ¬ EH all S i → (S (i + 1)).h = (S i).h
  good : ∀ a ∈ ag, a.i ≤ j ∧ Good P all S j a

theorem tr_run {P : Program} {all : Array Oper} {plan : List Todo} (hp : Zgh all = some plan) : ∀ {l : List Todo} {hs : List (Nat × List O)} {ag : List Again} {s : St} {r : X × St}, Tr P all l hs ag s r →
    ∀ (j : Nat) (S0 : Nat → St), l = plan.drop j → j ≤ all.size → S0 j = s → Before P all S0 j hs ag →
    ∃ S : Nat → St, (∀ i, i ≤ j → S i = S0 i) ∧ r = (.nrm, S all.size) ∧ (∀ (i : Nat) o, j ≤ i → all[i]? = some o → StepOK P all S i o) ∧ ∀ a ∈ ag, Good P all S all.size a := by
  have hpl : plan.length = all.size ∧ ∀ (j : Nat) td, plan[j]? = some td → td.i = j ∧ td.bf = (Region.before all).getD j 0 ∧ ∀ o, all[j]? = some o → td.hv = heavy o.op ∧ td.rds = reads o.op ∧
      (heavy o.op = true → td.nm = (besides all j).flatMap (Zj0 all) ∧ td.mv = (besides all j).flatMap moveNames) := by
    unfold Zgh at hp
    split at hp
    · simp only [Option.some.injEq] at hp
      subst hp
      refine ⟨by simp, fun j td htd => ?_⟩
      simp only [List.getElem?_map, List.getElem?_zipIdx, Option.map_map, Option.map_eq_some_iff] at htd
      obtain ⟨o, ho, rfl⟩ := htd
      refine ⟨by simp, by simp, fun o' ho' => ?_⟩
      have : o = o' := by
        rw [Array.getElem?_toList, ho'] at ho; exact (Option.some.inj ho).symm
      subst this
      refine ⟨rfl, rfl, fun hh => ?_⟩
      simp [hh]
    · simp at hp
  have hstep : ∀ {td : Todo} {rest : List Todo} {j : Nat}, td :: rest = plan.drop j → plan[j]? = some td ∧ rest = plan.drop (j + 1) ∧ j < all.size := by
    intro td rest j h
    have hlt : j < plan.length := by
      rcases Nat.lt_or_ge j plan.length with h' | h'
      · exact h'
      · rw [List.drop_eq_nil_of_le h'] at h; simp at h
    rw [List.drop_eq_getElem_cons hlt] at h
    simp only [List.cons.injEq] at h
    exact ⟨by rw [List.getElem?_eq_getElem hlt, h.1], h.2, by omega⟩
  have hcalm : ∀ {td : Todo} {j : Nat} {o : Oper} {t : List D}, plan[j]? = some td → all[j]? = some o → heavy o.op = true → calmAt td t = true → Calm all j t := by
    intro td j o t htd ho hh hc
    obtain ⟨_, _, h3⟩ := hpl.2 j td htd
    obtain ⟨h4, h5⟩ := (h3 o ho).2.2 hh
    simp only [calmAt, Bool.and_eq_true, List.all_eq_true, Bool.not_eq_true', h4, h5, List.mem_flatMap] at hc
    exact ⟨fun p hp x hx => hc.1 x ⟨p, hp, hx⟩, fun p hp x hx => hc.2 x ⟨p, hp, hx⟩⟩
  -- one step on
  have hnext : ∀ {j : Nat} {S0 : Nat → St} {hs hs' : List (Nat × List O)} {ag ag' : List Again} {s' : St}, Before P all S0 j hs ag → (∀ x ∈ hs, x ∈ hs') → (EH all S0 j → (j, (S0 j).h) ∈ hs') → (¬ EH all S0 j → s'.h = (S0 j).h) →
      (∀ a ∈ ag', a ∈ ag ∨ (a.i = j ∧ ¬ EH all S0 j ∧ Zdp P a.o { t := a.t, d := [], r := .no, h := (S0 j).h } = some a.d)) →
      (∀ a ∈ ag', EH all S0 j → ¬ Bef all j a.i → Zdp P a.o { t := a.t, d := [], r := .no, h := s'.h } = some a.d) →
      Before P all (upd S0 j s') (j + 1) hs' ag' := by
    intro j S0 hs hs' ag ag' s' hb h1 h2 h3 h4 h5
    have e : ∀ i, i ≤ j → upd S0 j s' i = S0 i := fun i hi => by simp only [upd]; rw [if_pos hi]
    have e' : upd S0 j s' (j + 1) = s' := by simp only [upd]; rw [if_neg (by omega)]
    refine ⟨fun i hi hE => ?_, fun i hi hE => ?_, fun a ha => ?_⟩
    · rw [EH.congr (e i (by omega))] at hE
      rw [e i (by omega)]
      by_cases hij : i = j
      · subst hij; exact h2 hE
      · exact h1 _ (hb.heavy i (by omega) hE)
    · rw [EH.congr (e i (by omega))] at hE
      rw [e i (by omega)]
      by_cases hij : i = j
      · subst hij; rw [e']; exact h3 hE
      · rw [e (i + 1) (by omega)]; exact hb.same i (by omega) hE
    · have hold : a.i ≤ j ∧ Good P all S0 j a := by
        rcases h4 a ha with h | ⟨q1, q2, q3⟩
        · exact hb.good a h
        · refine ⟨by omega, fun k hk hk2 _ => ?_⟩
          have : k = j := by omega
          subst this; exact q3
      refine ⟨by omega, fun k hk hk2 hcond => ?_⟩
      by_cases hkj : k ≤ j
      · rw [e k hkj]
        exact hold.2 k hk hkj (fun i hE h1 h2 => hcond i ((EH.congr (e i (by omega))).2 hE) h1 h2)
      · have : k = j + 1 := by omega
        subst this
        rw [e']
        by_cases hE : EH all S0 j
        · exact h5 a ha hE (hcond j ((EH.congr (e j (by omega))).2 hE) hold.1 (by omega))
        · rw [h3 hE]
          exact hold.2 j hold.1 (by omega) (fun i hE h1 h2 => hcond i ((EH.congr (e i (by omega))).2 hE) h1 (by omega))
  intro l hs ag s r htr
  induction htr with
  | nil hs ag s =>
    intro j S0 hl hj hs0 hb
    have hlen : plan.length ≤ j := by
      rcases Nat.lt_or_ge j plan.length with h | h
      · rw [List.drop_eq_getElem_cons h] at hl; simp at hl; try omega
      · exact h
    have hje : j = all.size := by omega
    subst hje
    refine ⟨S0, fun _ _ => rfl, by rw [hs0], fun i o hi ho => ?_, fun a ha => (hb.good a ha).2⟩
    have := (Array.getElem?_eq_some_iff.1 ho).1
    omega
  | skip td rest hs ag s o r ho hw t ih =>
    intro j S0 hl hj hs0 hb
    obtain ⟨p1, p2, p3⟩ := hstep hl
    obtain ⟨q1, q2, q3⟩ := hpl.2 j td p1
    rw [q1] at ho
    have hnE : ¬ EH all S0 j := by
      rintro ⟨o', ho', _, hw'⟩
      rw [ho] at ho'; cases ho'
      rw [hs0, hw] at hw'; simp at hw'
    obtain ⟨S, r1, r2, r3, r4⟩ := ih (j + 1) (upd S0 j (s.put o.dst Zav)) p2 (by omega) (by simp only [upd]; rw [if_neg (by omega)])
      (hnext hb (fun _ h => h) (fun h => absurd h hnE) (fun _ => by rw [put_h, hs0]) (fun a ha => .inl ha) (fun a ha h => absurd h hnE))
    have e1 : ∀ i, i ≤ j → S i = S0 i := fun i hi => by rw [r1 i (by omega)]; simp only [upd]; rw [if_pos hi]
    have e2 : S (j + 1) = s.put o.dst Zav := by rw [r1 _ (Nat.le_refl _)]; simp only [upd]; rw [if_neg (by omega)]
    refine ⟨S, e1, r2, fun i o' hi ho' => ?_, r4⟩
    by_cases hij : i = j
    · subst hij
      rw [ho] at ho'; cases ho'
      exact .skip (by rw [e1 _ (Nat.le_refl _), hs0]; exact hw) (by rw [e2, e1 _ (Nat.le_refl _), hs0])
    · exact r3 i o' (by omega) ho'
  | light td rest hs ag s o r d ho hw hh hr hx t ih =>
    intro j S0 hl hj hs0 hb
    obtain ⟨p1, p2, p3⟩ := hstep hl
    obtain ⟨q1, q2, q3⟩ := hpl.2 j td p1
    rw [q1] at ho
    obtain ⟨q4, q5, _⟩ := q3 o ho
    have hnE : ¬ EH all S0 j := by
      rintro ⟨o', ho', hh', _⟩
      rw [ho] at ho'; cases ho'
      rw [← q4, hh] at hh'; simp at hh'
    obtain ⟨S, r1, r2, r3, r4⟩ := ih (j + 1) (upd S0 j (s.put o.dst d)) p2 (by omega) (by simp only [upd]; rw [if_neg (by omega)])
      (hnext hb (fun _ h => h) (fun h => absurd h hnE) (fun _ => by rw [put_h, hs0]) (fun a ha => .inl ha) (fun a ha h => absurd h hnE))
    have e1 : ∀ i, i ≤ j → S i = S0 i := fun i hi => by rw [r1 i (by omega)]; simp only [upd]; rw [if_pos hi]
    have e2 : S (j + 1) = s.put o.dst d := by rw [r1 _ (Nat.le_refl _)]; simp only [upd]; rw [if_neg (by omega)]
    refine ⟨S, e1, r2, fun i o' hi ho' => ?_, r4⟩
    by_cases hij : i = j
    · subst hij
      rw [ho] at ho'; cases ho'
      have ej := e1 i (Nat.le_refl _)
      exact .light d (by rw [ej, hs0]; exact hw) (by rw [← q4]; exact hh) (by rw [ej, hs0]; exact hx) (by rw [e2, ej, hs0]) (fun hr' => by rw [← q5, hr] at hr'; simp at hr')
    · exact r3 i o' (by omega) ho'
  | read td rest hs ag s o r d ho hw hh hx hsb t ih =>
    intro j S0 hl hj hs0 hb
    obtain ⟨p1, p2, p3⟩ := hstep hl
    obtain ⟨q1, q2, q3⟩ := hpl.2 j td p1
    rw [q1] at ho
    obtain ⟨q4, q5, _⟩ := q3 o ho
    have hnE : ¬ EH all S0 j := by
      rintro ⟨o', ho', hh', _⟩
      rw [ho] at ho'; cases ho'
      rw [← q4, hh] at hh'; simp at hh'
    obtain ⟨S, r1, r2, r3, r4⟩ := ih (j + 1) (upd S0 j (s.put o.dst d)) p2 (by omega) (by simp only [upd]; rw [if_neg (by omega)])
      (hnext hb (fun _ h => h) (fun h => absurd h hnE) (fun _ => by rw [put_h, hs0]) (fun a ha => by
        rcases List.mem_cons.1 ha with rfl | ha
        · exact .inr ⟨q1, hnE, by rw [hs0]; exact light_bare hx⟩
        · exact .inl ha) (fun a ha h => absurd h hnE))
    have e1 : ∀ i, i ≤ j → S i = S0 i := fun i hi => by rw [r1 i (by omega)]; simp only [upd]; rw [if_pos hi]
    have e2 : S (j + 1) = s.put o.dst d := by rw [r1 _ (Nat.le_refl _)]; simp only [upd]; rw [if_neg (by omega)]
    refine ⟨S, e1, r2, fun i o' hi ho' => ?_, fun a ha => r4 a (by simp [ha])⟩
    by_cases hij : i = j
    · subst hij
      rw [ho] at ho'; cases ho'
      have ej := e1 i (Nat.le_refl _)
      refine .light d (by rw [ej, hs0]; exact hw) (by rw [← q4]; exact hh) (by rw [ej, hs0]; exact hx) (by rw [e2, ej, hs0]) (fun _ k hk hc1 hc2 => ?_)
      rw [ej, hs0]
      rcases Nat.lt_or_ge k i with hlt | hge
      · -- ahead
        have key : ∀ m, ∀ k, i - k = m → k ≤ i → (∀ x, EH all S0 x → k ≤ x → x < i → ¬ Bef all i x) → Zdp P o { t := s.t, d := [], r := .no, h := (S0 k).h } = some d := by
          intro m
          induction m with
          | zero =>
            intro k hm hk _
            have : k = i := by omega
            subst this; rw [hs0]; exact light_bare hx
          | succ m ihm =>
            intro k hm hk hc
            by_cases hE : EH all S0 k
            · have hnb := hc k hE (Nat.le_refl _) (by omega)
              have := hsb _ (hb.heavy k (by omega) hE)
              rw [q2] at this
              exact this (by unfold Bef at hnb; simpa using hnb)
            · rw [← hb.same k (by omega) hE]
              exact ihm (k + 1) (by omega) (by omega) (fun x hx h1 h2 => hc x hx (by omega) h2)
        rw [e1 k (by omega)]
        exact key _ k rfl (by omega) (fun x hx h1 h2 => hc1 x ((EH.congr (e1 x (by omega))).2 hx) h1 h2)
      · have := r4 { i := td.i, o := o, t := s.t, d := d } (by simp) k (by simp only [q1]; exact hge) hk (fun x hx h1 h2 => by simp only [q1] at h1 ⊢; exact hc2 x hx h1 h2)
        exact this
    · exact r3 i o' (by omega) ho'
  | oper td rest hs ag s o r d s1 ho hw hh hc hk hx ha t ih =>
    intro j S0 hl hj hs0 hb
    obtain ⟨p1, p2, p3⟩ := hstep hl
    obtain ⟨q1, q2, q3⟩ := hpl.2 j td p1
    rw [q1] at ho
    obtain ⟨q4, q5, _⟩ := q3 o ho
    have hE : EH all S0 j := ⟨o, ho, by rw [← q4]; exact hh, by rw [hs0]; exact hw⟩
    obtain ⟨S, r1, r2, r3, r4⟩ := ih (j + 1) (upd S0 j (s1.put o.dst d)) p2 (by omega) (by simp only [upd]; rw [if_neg (by omega)])
      (hnext hb (fun _ h => by simp [h]) (fun _ => by simp [q1, hs0]) (fun h => absurd hE h) (fun a ha => .inl ha) (fun a ham _ hnb => by
        rw [put_h]; have := ha a ham; rw [q2] at this; exact this (by unfold Bef at hnb; simpa using hnb)))
    have e1 : ∀ i, i ≤ j → S i = S0 i := fun i hi => by rw [r1 i (by omega)]; simp only [upd]; rw [if_pos hi]
    have e2 : S (j + 1) = s1.put o.dst d := by rw [r1 _ (Nat.le_refl _)]; simp only [upd]; rw [if_neg (by omega)]
    refine ⟨S, e1, r2, fun i o' hi ho' => ?_, r4⟩
    by_cases hij : i = j
    · subst hij
      rw [ho] at ho'; cases ho'
      have ej := e1 i (Nat.le_refl _)
      have hhv : heavy o.op = true := by rw [← q4]; exact hh
      exact .oper d s1 (by rw [ej, hs0]; exact hw) hhv (by rw [ej, hs0]; exact hcalm p1 ho hhv hc) (by rw [ej, hs0]; exact hk) (by rw [ej, hs0]; exact hx) e2
    · exact r3 i o' (by omega) ho'
  | call td rest hs ag s o r d s1 g args rc ho hw hh hc hk hm hv ha t ih =>
    intro j S0 hl hj hs0 hb
    obtain ⟨p1, p2, p3⟩ := hstep hl
    obtain ⟨q1, q2, q3⟩ := hpl.2 j td p1
    rw [q1] at ho
    obtain ⟨q4, q5, _⟩ := q3 o ho
    have hE : EH all S0 j := ⟨o, ho, by rw [← q4]; exact hh, by rw [hs0]; exact hw⟩
    obtain ⟨S, r1, r2, r3, r4⟩ := ih (j + 1) (upd S0 j (({ s1 with h := rc.2 } : St).put o.dst d)) p2 (by omega) (by simp only [upd]; rw [if_neg (by omega)])
      (hnext hb (fun _ h => by simp [h]) (fun _ => by simp [q1, hs0]) (fun h => absurd hE h) (fun a ha => .inl ha) (fun a ham _ hnb => by
        rw [put_h]; have := ha a ham; rw [q2] at this; exact this (by unfold Bef at hnb; simpa using hnb)))
    have e1 : ∀ i, i ≤ j → S i = S0 i := fun i hi => by rw [r1 i (by omega)]; simp only [upd]; rw [if_pos hi]
    have e2 : S (j + 1) = ({ s1 with h := rc.2 } : St).put o.dst d := by rw [r1 _ (Nat.le_refl _)]; simp only [upd]; rw [if_neg (by omega)]
    refine ⟨S, e1, r2, fun i o' hi ho' => ?_, r4⟩
    by_cases hij : i = j
    · subst hij
      rw [ho] at ho'; cases ho'
      have ej := e1 i (Nat.le_refl _)
      have hhv : heavy o.op = true := by rw [← q4]; exact hh
      exact .call d s1 g args rc (by rw [ej, hs0]; exact hw) hhv (by rw [ej, hs0]; exact hcalm p1 ho hhv hc) (by rw [ej, hs0]; exact hk) hm hv e2
    · exact r3 i o' (by omega) ho'

end Go.Abs

namespace Go.Abs

section
variable {P : Program} {all : Array Oper} {S : Nat → St}

/-- Who writes a slot, or may take from it. -/
def Tch (all : Array Oper) (i t : Nat) : Prop := ∃ o, all[i]? = some o ∧ (o.dst = some t ∨ (heavy o.op = true ∧ t ∈ Zi7 all o))
def Hv (all : Array Oper) (i : Nat) : Prop := ∃ o, all[i]? = some o ∧ heavy o.op = true

theorem tch_total (hp : Plan all) {i j t : Nat} (hi : Tch all i t) (hj : Tch all j t) (hij : i < j) : Bef all j i := by
  obtain ⟨p, hpo, hi⟩ := hi
  obtain ⟨o, ho, hj⟩ := hj
  refine Classical.byContradiction fun hb => ?_
  obtain ⟨h1, h2, h3⟩ := hp.pair i j p o hpo ho hij hb
  have mo : t ∈ Zi7 all o := by
    rcases hj with hj | hj
    · simp [Zi7, hj]
    · exact hj.2
  have mp : t ∈ Zi7 all p := by
    rcases hi with hi | hi
    · simp [Zi7, hi]
    · exact hi.2
  rcases hi with hi | hi
  · exact h2 t hi mo
  · rcases hj with hj | hj
    · exact h3 t hj mp
    · exact h1 ⟨hi.1, hj.1⟩

theorem hv_total (hp : Plan all) {i j : Nat} (hi : Hv all i) (hj : Hv all j) (hij : i < j) : Bef all j i := by
  obtain ⟨p, hpo, hi⟩ := hi
  obtain ⟨o, ho, hj⟩ := hj
  refine Classical.byContradiction fun hb => ?_
  exact (hp.pair i j p o hpo ho hij hb).1 ⟨hi, hj⟩

/-- Of a kind whose members come one behind the other, those that are done are the first ones. -/
theorem sep {T : Nat → Prop} {D : Nat → Prop} (hT : ∀ i j, T i → T j → i < j → Bef all j i) (hD : ∀ j, D j → ∀ i, Bef all j i → D i) : ∀ n : Nat, ∃ k, k ≤ n ∧ ∀ i, i < n → T i → (D i ↔ i < k)
  | 0 => ⟨0, Nat.le_refl _, fun i hi => absurd hi (by omega)⟩
  | n + 1 => by
    obtain ⟨k, hk, h⟩ := sep hT hD n
    by_cases hTn : T n
    · by_cases hDn : D n
      · refine ⟨n + 1, Nat.le_refl _, fun i hi hTi => ⟨fun _ => hi, fun _ => ?_⟩⟩
        by_cases e : i = n
        · subst e; exact hDn
        · exact hD n hDn i (hT i n hTi hTn (by omega))
      · refine ⟨k, by omega, fun i hi hTi => ?_⟩
        by_cases e : i = n
        · subst e; exact ⟨fun h => absurd h hDn, fun h => by omega⟩
        · exact h i (by omega) hTi
    · refine ⟨k, by omega, fun i hi hTi => ?_⟩
      by_cases e : i = n
      · subst e; exact absurd hTi hTn
      · exact h i (by omega) hTi

theorem put_far (s : St) {dst : Option Tmp} {t : Nat} (d : D) (h : dst ≠ some t) : (s.put dst d).t[t]? = s.t[t]? := by
  cases dst with
  | none => rfl
  | some u =>
    have : u ≠ t := fun e => h (by rw [e])
    simp only [St.put]; rw [List.getElem?_set_ne this]
theorem put_len (s : St) (dst : Option Tmp) (d : D) : (s.put dst d).t.length = s.t.length := by cases dst <;> simp [St.put]
theorem put_near (s s' : St) (h : s.t.length = s'.t.length) (t : Nat) (d : D) : (s.put (some t) d).t[t]? = (s'.put (some t) d).t[t]? := by
  simp only [St.put, List.getElem?_set]; simp [h]

theorem heavy_touch {o : Oper} (hh : heavy o.op = true) {s s1 : St} {d : D} (hx : exOp P [] o s = some (.val d, s1)) : Touch (opTs o.op) s s1 := by
  obtain ⟨s1', k1, k2⟩ := heavy_ag hh (s' := s) ⟨rfl, rfl, rfl, rfl, fun _ _ => rfl⟩ hx
  exact k2.l
theorem kind_touch {o : Oper} {s s1 : St} {g : Tgt} {args : List D} (hx : Zfb o s = .go g args s1) : Touch (opTs o.op) s s1 ∧ s1.h = s.h ∧ s1.d = s.d ∧ s1.r = s.r := by
  obtain ⟨s1', k1, k2⟩ := kind_ag (s' := s) ⟨rfl, rfl, rfl, rfl, fun _ _ => rfl⟩ hx
  refine ⟨k2.l, ?_⟩
  -- nothing but slots
  have tk0 : ∀ {s s1 : St} {x : Operand} {d : D}, tk s x = some (d, s1) → s1.h = s.h ∧ s1.d = s.d ∧ s1.r = s.r := by
    intro s s1 x d h
    cases x with
    | tmp t =>
      simp only [tk] at h
      split at h <;> (simp only [Option.some.injEq, Prod.mk.injEq] at h; obtain ⟨_, rfl⟩ := h; exact ⟨rfl, rfl, rfl⟩)
    | _ => simp only [tk, Option.map_eq_some_iff, Prod.mk.injEq] at h; obtain ⟨_, _, _, rfl⟩ := h; exact ⟨rfl, rfl, rfl⟩
  have tks0 : ∀ {xs : List Operand} {s s1 : St} {ds : List D}, tks s xs = some (ds, s1) → s1.h = s.h ∧ s1.d = s.d ∧ s1.r = s.r := by
    intro xs
    induction xs with
    | nil => intro s s1 ds h; simp [tks] at h; obtain ⟨_, rfl⟩ := h; exact ⟨rfl, rfl, rfl⟩
    | cons x xs ih =>
      intro s s1 ds h
      simp only [tks] at h
      split at h
      · rename_i d s2 h1
        split at h
        · rename_i ds' s3 h2
          simp at h; obtain ⟨_, rfl⟩ := h
          obtain ⟨a1, a2, a3⟩ := tk0 h1
          obtain ⟨b1, b2, b3⟩ := ih h2
          exact ⟨b1.trans a1, b2.trans a2, b3.trans a3⟩
        · simp at h
      · simp at h
  unfold Zfb at hx
  split at hx
  · split at hx
    · split at hx
      · rename_i h2
        split at hx
        · simp only [Kind.go.injEq] at hx
          obtain ⟨_, _, rfl⟩ := hx
          exact tks0 h2
        · simp at hx
      · rename_i h2
        simp only [Kind.go.injEq] at hx
        obtain ⟨_, _, rfl⟩ := hx
        exact tks0 h2
      · simp at hx
    · simp at hx
    · simp at hx
  · simp at hx

theorem opTs_names {o : Oper} {t : Nat} (h : t ∈ opTs o.op) : t ∈ Zi7 all o := by
  unfold opTs at h; simp only [Zi7, List.mem_append]; exact .inl (.inr h)

/-- One step changes what it touches. -/
theorem step_far (hS : ∀ (j : Nat) o, all[j]? = some o → StepOK P all S j o) {j : Nat} (hj : j < all.size) {t : Nat} (ht : ¬ Tch all j t) : (S (j + 1)).t[t]? = (S j).t[t]? := by
  have ho : all[j]? = some all[j] := Array.getElem?_eq_getElem hj
  generalize all[j] = o at ho
  have hd : o.dst ≠ some t := fun e => ht ⟨o, ho, .inl e⟩
  cases hS j o ho with
  | skip hw e => rw [e, put_far _ _ hd]
  | light d hw hh hx e hr => rw [e, put_far _ _ hd]
  | oper d s1 hw hh hc hk hx e =>
    have hn : t ∉ opTs o.op := fun h => ht ⟨o, ho, .inr ⟨hh, opTs_names h⟩⟩
    rw [e, put_far _ _ hd, (heavy_touch hh hx).far t hn]
  | call d s1 g args rc hw hh hc hk hm hv e =>
    have hn : t ∉ opTs o.op := fun h => ht ⟨o, ho, .inr ⟨hh, opTs_names h⟩⟩
    rw [e, put_far _ _ hd]
    exact (kind_touch hk).1.far t hn

theorem step_len (hS : ∀ (j : Nat) o, all[j]? = some o → StepOK P all S j o) {j : Nat} (hj : j < all.size) : (S (j + 1)).t.length = (S j).t.length := by
  have ho : all[j]? = some all[j] := Array.getElem?_eq_getElem hj
  generalize all[j] = o at ho
  cases hS j o ho with
  | skip hw e => rw [e, put_len]
  | light d hw hh hx e hr => rw [e, put_len]
  | oper d s1 hw hh hc hk hx e => rw [e, put_len, (heavy_touch hh hx).len]
  | call d s1 g args rc hw hh hc hk hm hv e => rw [e, put_len]; exact (kind_touch hk).1.len

theorem put_r' (s : St) (dst : Option Tmp) (d : D) : (s.put dst d).r = s.r := by cases dst <;> rfl

/-- A light step changes no memory. -/
theorem step_mem (hS : ∀ (j : Nat) o, all[j]? = some o → StepOK P all S j o) {j : Nat} (hj : j < all.size) (h : ¬ Hv all j) : (S (j + 1)).h = (S j).h ∧ (S (j + 1)).d = (S j).d ∧ (S (j + 1)).r = (S j).r := by
  have ho : all[j]? = some all[j] := Array.getElem?_eq_getElem hj
  generalize all[j] = o at ho
  cases hS j o ho with
  | skip hw e => rw [e, put_h, put_d, put_r']; exact ⟨rfl, rfl, rfl⟩
  | light d hw hh hx e hr => rw [e, put_h, put_d, put_r']; exact ⟨rfl, rfl, rfl⟩
  | oper d s1 hw hh hc hk hx e => exact absurd ⟨o, ho, hh⟩ h
  | call d s1 g args rc hw hh hc hk hm hv e => exact absurd ⟨o, ho, hh⟩ h

theorem len_all (hS : ∀ (j : Nat) o, all[j]? = some o → StepOK P all S j o) : ∀ k, k ≤ all.size → (S k).t.length = (S 0).t.length
  | 0, _ => rfl
  | k + 1, h => (step_len hS (by omega)).trans (len_all hS k (by omega))

theorem far_all (hS : ∀ (j : Nat) o, all[j]? = some o → StepOK P all S j o) {t a : Nat} : ∀ m, a + m ≤ all.size → (∀ i, a ≤ i → i < a + m → ¬ Tch all i t) → (S (a + m)).t[t]? = (S a).t[t]?
  | 0, _, _ => rfl
  | m + 1, h, hc => (step_far hS (by omega) (hc (a + m) (by omega) (by omega))).trans (far_all hS m (by omega) (fun i h1 h2 => hc i h1 (by omega)))

theorem mem_all (hS : ∀ (j : Nat) o, all[j]? = some o → StepOK P all S j o) {a : Nat} : ∀ m, a + m ≤ all.size → (∀ i, a ≤ i → i < a + m → ¬ Hv all i) → (S (a + m)).h = (S a).h ∧ (S (a + m)).d = (S a).d ∧ (S (a + m)).r = (S a).r
  | 0, _, _ => ⟨rfl, rfl, rfl⟩
  | m + 1, h, hc => by
    obtain ⟨a1, a2, a3⟩ := step_mem hS (j := a + m) (by omega) (hc (a + m) (by omega) (by omega))
    obtain ⟨b1, b2, b3⟩ := mem_all hS m (by omega) (fun i h1 h2 => hc i h1 (by omega))
    exact ⟨a1.trans b1, a2.trans b2, a3.trans b3⟩

/-! ### what light ones see -/
theorem getD_of {s s' : St} {t : Nat} (h : s.t[t]? = s'.t[t]?) : s.t.getD t Zav = s'.t.getD t Zav := by simp [List.getD, h]

/-- The slots that the operation p looks at, between two places between which nothing is done that must come ahead of it or behind it. -/
theorem see (hp : Plan all) (hS : ∀ (j : Nat) o, all[j]? = some o → StepOK P all S j o) {j : Nat} {p : Oper} (hj : all[j]? = some p) {t a : Nat} (htn : t ∈ Zi7 all p) : ∀ m, a + m ≤ all.size →
    (∀ i, a ≤ i → i < a + m → Tch all i t → i ≠ j ∧ ¬ Bef all i j ∧ ¬ Bef all j i) →
    (t ∈ Zj0 all p → (S (a + m)).t.getD t Zav = (S a).t.getD t Zav) ∧
    (t ∈ moveNames p → ((S (a + m)).t.getD t Zav = (S a).t.getD t Zav) ∨ (cpD ((S (a + m)).t.getD t Zav) = cpD ((S a).t.getD t Zav) ∧ excD ((S a).t.getD t Zav) = false))
  | 0, _, _ => ⟨fun _ => rfl, fun _ => .inl rfl⟩
  | m + 1, hm, hc => by
    obtain ⟨ih1, ih2⟩ := see hp hS hj htn (a := a) m (by omega) (fun i h1 h2 => hc i h1 (by omega))
    by_cases hT : Tch all (a + m) t
    · obtain ⟨hne, hb1, hb2⟩ := hc (a + m) (by omega) (by omega) hT
      have hlt : a + m < all.size := by omega
      have ho : all[a + m]? = some all[a + m] := Array.getElem?_eq_getElem hlt
      generalize all[a + m] = o at ho
      -- it does not write the slot
      have hnw : o.dst ≠ some t := by
        intro hd
        rcases Nat.lt_or_ge (a + m) j with h | h
        · exact (hp.pair _ _ o p ho hj h hb2).2.1 t hd htn
        · exact (hp.pair _ _ p o hj ho (by omega) hb1).2.2 t hd htn
      have hbes : p ∈ besides all (a + m) := by
        unfold besides
        simp only [List.mem_map, List.mem_filter, Bool.and_eq_true, Bool.not_eq_true', bne_iff_ne, ne_eq]
        refine ⟨(p, j), ⟨by rw [List.mem_zipIdx_iff_getElem?]; simpa using hj, ⟨fun e => hne e.symm, ?_⟩, ?_⟩, rfl⟩
        · unfold Bef at hb1; simpa using hb1
        · unfold Bef at hb2; simpa using hb2
      have fin : ∀ (s1 : St) (d : D), S (a + m + 1) = s1.put o.dst d → Calm all (a + m) (S (a + m)).t → Red ((S (a + m)).t.getD t Zav) (s1.t.getD t Zav) →
          (t ∈ Zj0 all p → (S (a + (m + 1))).t.getD t Zav = (S a).t.getD t Zav) ∧
          (t ∈ moveNames p → ((S (a + (m + 1))).t.getD t Zav = (S a).t.getD t Zav) ∨ (cpD ((S (a + (m + 1))).t.getD t Zav) = cpD ((S a).t.getD t Zav) ∧ excD ((S a).t.getD t Zav) = false)) := by
        intro s1 d e hcalm hred
        have e1 : (S (a + (m + 1))).t.getD t Zav = s1.t.getD t Zav := by
          rw [← Nat.add_assoc, e]; exact getD_of (put_far _ _ hnw)
        refine ⟨fun h => ?_, fun h => .inr ?_⟩
        · rw [e1, hred.1 (hcalm.1 p hbes t h)]; exact ih1 h
        · have he := hcalm.2 p hbes t h
          rw [e1, hred.2 he]
          rcases ih2 h with h' | h'
          · rw [h'] at he ⊢; exact ⟨rfl, he⟩
          · exact h'
      cases hS _ o ho with
      | skip hw e =>
        have e1 : (S (a + (m + 1))).t.getD t Zav = (S (a + m)).t.getD t Zav := by
          rw [← Nat.add_assoc, e]; exact getD_of (put_far _ _ hnw)
        rw [e1]; exact ⟨ih1, ih2⟩
      | light d hw hh hx e hr =>
        have e1 : (S (a + (m + 1))).t.getD t Zav = (S (a + m)).t.getD t Zav := by
          rw [← Nat.add_assoc, e]; exact getD_of (put_far _ _ hnw)
        rw [e1]; exact ⟨ih1, ih2⟩
      | oper d s1 hw hh hcalm hk hx e => exact fin s1 d e hcalm ((heavy_touch hh hx).red t)
      | call d s1 g args rc hw hh hcalm hk hm' hv e => exact fin _ d e hcalm ((kind_touch hk).1.red t)
    · have e1 : (S (a + (m + 1))).t.getD t Zav = (S (a + m)).t.getD t Zav := by
        rw [← Nat.add_assoc]; exact getD_of (step_far hS (by omega) hT)
      rw [e1]; exact ⟨ih1, ih2⟩

/-! ### where one stands when D is done -/
structure Inv (all : Array Oper) (S : Nat → St) (D : Nat → Prop) (c : St) : Prop where
  len : c.t.length = (S 0).t.length
  slot : ∀ t k, k ≤ all.size → (∀ i, Tch all i t → (D i ↔ i < k)) → c.t[t]? = (S k).t[t]?
  mem : ∀ k, k ≤ all.size → (∀ i, Hv all i → (D i ↔ i < k)) → c.h = (S k).h ∧ c.d = (S k).d ∧ c.r = (S k).r

theorem tch_lt {i t : Nat} (h : Tch all i t) : i < all.size := by obtain ⟨o, ho, _⟩ := h; exact (Array.getElem?_eq_some_iff.1 ho).1
theorem hv_lt {i : Nat} (h : Hv all i) : i < all.size := by obtain ⟨o, ho, _⟩ := h; exact (Array.getElem?_eq_some_iff.1 ho).1

section
variable (hp : Plan all) (hS : ∀ (j : Nat) o, all[j]? = some o → StepOK P all S j o) {D : Nat → Prop} (hD : ∀ j, D j → ∀ i, Bef all j i → D i) {c : St} (hI : Inv all S D c) {j : Nat} (hj : j < all.size) (hn : ¬ D j) (hb : ∀ i, Bef all j i → D i)
  include hp hS hD hI hj hn hb

/-- At an operation's turn, what it touches is as it was at its place in the text. -/
theorem at_turn {t : Nat} (ht : Tch all j t) : c.t[t]? = (S j).t[t]? := by
  have _ := hS
  refine hI.slot t j (by omega) (fun i hi => ⟨fun h => ?_, fun h => hb i (tch_total hp hi ht h)⟩)
  rcases Nat.lt_or_ge i j with h' | h'
  · exact h'
  · exfalso
    have : i ≠ j := fun e => hn (e ▸ h)
    exact hn (hD i h j (tch_total hp ht hi (by omega)))

theorem mem_turn (hh : Hv all j) : c.h = (S j).h ∧ c.d = (S j).d ∧ c.r = (S j).r := by
  have _ := hS
  refine hI.mem j (by omega) (fun i hi => ⟨fun h => ?_, fun h => hb i (hv_total hp hi hh h)⟩)
  rcases Nat.lt_or_ge i j with h' | h'
  · exact h'
  · exfalso
    have : i ≠ j := fun e => hn (e ▸ h)
    exact hn (hD i h j (hv_total hp hh hi (by omega)))

theorem inv_step {c' : St} (hl : c'.t.length = c.t.length) (h1 : ∀ t, ¬ Tch all j t → c'.t[t]? = c.t[t]?) (h2 : ∀ t, Tch all j t → c'.t[t]? = (S (j + 1)).t[t]?)
    (h3 : Hv all j → c'.h = (S (j + 1)).h ∧ c'.d = (S (j + 1)).d ∧ c'.r = (S (j + 1)).r) (h4 : ¬ Hv all j → c'.h = c.h ∧ c'.d = c.d ∧ c'.r = c.r) : Inv all S (fun i => D i ∨ i = j) c' := by
  have _ := hj
  have _ := hb
  refine ⟨hl.trans hI.len, fun t k hk hc => ?_, fun k hk hc => ?_⟩
  · by_cases ht : Tch all j t
    · rw [h2 t ht]
      have hjk : j < k := (hc j ht).1 (.inr rfl)
      have := far_all hS (t := t) (a := j + 1) (k - (j + 1)) (by omega) (fun i ha hb' hi => by
        have : D i ∨ i = j := (hc i hi).2 (by omega)
        rcases this with h | h
        · exact hn (hD i h j (tch_total hp ht hi (by omega)))
        · omega)
      rw [show j + 1 + (k - (j + 1)) = k from by omega] at this
      exact this.symm
    · rw [h1 t ht]
      exact hI.slot t k hk (fun i hi => by
        have hne : i ≠ j := fun e => ht (e ▸ hi)
        rw [← hc i hi]; simp [hne])
  · by_cases ht : Hv all j
    · have hjk : j < k := (hc j ht).1 (.inr rfl)
      have := mem_all hS (a := j + 1) (k - (j + 1)) (by omega) (fun i ha hb' hi => by
        have : D i ∨ i = j := (hc i hi).2 (by omega)
        rcases this with h | h
        · exact hn (hD i h j (hv_total hp ht hi (by omega)))
        · omega)
      rw [show j + 1 + (k - (j + 1)) = k from by omega] at this
      obtain ⟨a1, a2, a3⟩ := h3 ht
      exact ⟨a1.trans this.1.symm, a2.trans this.2.1.symm, a3.trans this.2.2.symm⟩
    · obtain ⟨a1, a2, a3⟩ := h4 ht
      obtain ⟨b1, b2, b3⟩ := hI.mem k hk (fun i hi => by
        have hne : i ≠ j := fun e => ht (e ▸ hi)
        rw [← hc i hi]; simp [hne])
      exact ⟨a1.trans b1, a2.trans b2, a3.trans b3⟩

/-- What a light one looks at. -/
theorem look {p : Oper} (ho : all[j]? = some p) {t : Nat} (htn : t ∈ Zi7 all p) : (t ∈ Zj0 all p → c.t.getD t Zav = (S j).t.getD t Zav) ∧
    (t ∈ moveNames p → excD ((S j).t.getD t Zav) = false → cpD (c.t.getD t Zav) = cpD ((S j).t.getD t Zav)) := by
  obtain ⟨k, hk, hs⟩ := sep (all := all) (T := fun i => Tch all i t) (D := D) (fun i j hi hj h => tch_total hp hi hj h) hD all.size
  have hs' : ∀ i, Tch all i t → (D i ↔ i < k) := fun i hi => hs i (tch_lt hi) hi
  have e := getD_of (hI.slot t k hk hs')
  rw [e]
  rcases Nat.lt_or_ge j k with hlt | hge
  · have := see hp hS ho htn (a := j) (k - j) (by omega) (fun i h1 h2 hT => by
      have hDi : D i := (hs' i hT).2 (by omega)
      have hne : i ≠ j := fun e => hn (e ▸ hDi)
      exact ⟨hne, fun hB => hn (hD i hDi j hB), fun hB => by have := bef_lt hp j i hB; omega⟩)
    rw [show j + (k - j) = k from by omega] at this
    refine ⟨this.1, fun h _ => ?_⟩
    rcases this.2 h with h' | h'
    · rw [h']
    · exact h'.1
  · have := see hp hS ho htn (a := k) (j - k) (by omega) (fun i h1 h2 hT => by
      have hDi : ¬ D i := fun h => by have := (hs' i hT).1 h; omega
      exact ⟨by omega, fun hB => by have := bef_lt hp i j hB; omega, fun hB => hDi (hb i hB)⟩)
    rw [show k + (j - k) = j from by omega] at this
    refine ⟨fun h => (this.1 h).symm, fun h _ => ?_⟩
    rcases this.2 h with h' | h'
    · rw [h']
    · exact h'.1.symm

theorem want_look {o : Oper} (ho : all[j]? = some o) : want all o c = want all o (S j) := by
  unfold want
  cases hg : o.guard with
  | none => rfl
  | some g =>
    obtain ⟨g, b⟩ := g
    simp only
    cases hd : (all[g]?).bind (·.dst) with
    | none => rfl
    | some t =>
      simp only
      have hr : t ∈ Zj0 all o := by simp [Zj0, hg, hd]
      have hnm : t ∈ Zi7 all o := by simp [Zi7, hg, hd]
      have h1 := (look hp hS hD hI hj hn hb ho hnm).1 hr
      have hl : c.t.length = (S j).t.length := hI.len.trans (len_all hS j (by omega)).symm
      have : c.t[t]? = (S j).t[t]? := by
        rcases Nat.lt_or_ge t c.t.length with hlt | hge
        · have hlt2 : t < (S j).t.length := hl ▸ hlt
          rw [List.getD_eq_getElem?_getD, List.getD_eq_getElem?_getD, List.getElem?_eq_getElem hlt, List.getElem?_eq_getElem hlt2] at h1
          rw [List.getElem?_eq_getElem hlt, List.getElem?_eq_getElem hlt2]
          simpa using h1
        · rw [List.getElem?_eq_none hge, List.getElem?_eq_none (hl ▸ hge)]
      rw [this]

theorem light_look {o : Oper} {d : Abs.D} (ho : all[j]? = some o) (hw : want all o (S j) = true) (hh : heavy o.op = false) (hx : Zdp P o (S j) = some d)
    (hr : reads o.op = true → ∀ k, k ≤ all.size → (∀ i, EH all S i → k ≤ i → i < j → ¬ Bef all j i) → (∀ i, EH all S i → j ≤ i → i < k → ¬ Bef all i j) →
        Zdp P o { t := (S j).t, d := [], r := .no, h := (S k).h } = some d) : Zdp P o c = some d := by
  have hop : ∀ t, t ∈ opTs o.op → t ∈ Zi7 all o := fun t h => opTs_names h
  have hex : ∀ t, o.op = .move (.tmp t) → excD ((S j).t.getD t Zav) = false := by
    intro t hm
    unfold Zdp at hx
    simp only [hm] at hx
    cases he : excD ((S j).t.getD t Zav) with
    | false => rfl
    | true => rw [he] at hx; simp at hx
  have hal : ∀ h, Alight o { t := (S j).t, d := [], r := .no, h := h } c := by
    intro h
    unfold Alight
    split
    · rename_i t hm
      exact (look hp hS hD hI hj hn hb ho (hop t (by simp [opTs, hm, Op.operands, opTmp]))).2 (by simp [moveNames, hm]) (hex t hm)
    · rename_i op hnm
      intro t ht
      refine (look hp hS hD hI hj hn hb ho (hop t ht)).1 ?_
      simp only [Zj0, List.mem_append]
      left
      split
      · rename_i x hm
        cases x with
        | tmp u => exact absurd hm (hnm u)
        | _ => rw [hm] at ht; simp [opTs, Op.operands, opTmp] at ht
      · exact ht
  by_cases hrd : reads o.op = true
  · obtain ⟨k, hk, hs⟩ := sep (all := all) (T := Hv all) (D := D) (fun i j hi hj h => hv_total hp hi hj h) hD all.size
    have hs' : ∀ i, Hv all i → (D i ↔ i < k) := fun i hi => hs i (hv_lt hi) hi
    have hm := (hI.mem k hk hs').1
    have := hr hrd k hk (fun i hE h1 h2 hB => by
        obtain ⟨o', q1, q2, _⟩ := hE
        have := (hs' i ⟨o', q1, q2⟩).1 (hb i hB); omega) (fun i hE h1 h2 hB => by
        obtain ⟨o', q1, q2, _⟩ := hE
        exact hn (hD i ((hs' i ⟨o', q1, q2⟩).2 h2) j hB))
    exact light_ag this (hal _) (.inl hm)
  · exact light_ag (light_bare hx) (hal _) (.inr (by simpa using hrd))

end

/-- In whatever order. -/
theorem mo_lin (hp : Plan all) (hS : ∀ (j : Nat) o, all[j]? = some o → StepOK P all S j o) {D : Nat → Prop} {σ : List Nat} (hl : Lin all D σ) : (∀ j, D j → ∀ i, Bef all j i → D i) → ∀ c, Inv all S D c →
    MO P all (σ.filterMap fun i => all[i]?) c (.nrm, S all.size) := by
  induction hl with
  | nil D h =>
    intro hD c hI
    have : c = S all.size := by
      obtain ⟨m1, m2, m3⟩ := hI.mem all.size (Nat.le_refl _) (fun i hi => ⟨fun _ => hv_lt hi, fun _ => h i (hv_lt hi)⟩)
      have ht : c.t = (S all.size).t := by
        apply List.ext_getElem?
        intro t
        exact hI.slot t all.size (Nat.le_refl _) (fun i hi => ⟨fun _ => tch_lt hi, fun _ => h i (tch_lt hi)⟩)
      cases c; cases hSn : S all.size; rw [hSn] at m1 m2 m3 ht
      simp only at m1 m2 m3 ht
      subst m1; subst m2; subst m3; subst ht; rfl
    rw [this]
    exact mo_nil
  | cons D j σ hj hn hb t ih =>
    intro hD c hI
    have ho : all[j]? = some all[j] := Array.getElem?_eq_getElem hj
    generalize all[j] = o at ho
    have hD' : ∀ k, (D k ∨ k = j) → ∀ i, Bef all k i → (D i ∨ i = j) := by
      intro k hk i hB
      rcases hk with hk | rfl
      · exact .inl (hD k hk i hB)
      · exact .inl (hb i hB)
    have hw := want_look hp hS hD hI hj hn hb ho
    have hlen : c.t.length = (S j).t.length := hI.len.trans (len_all hS j (by omega)).symm
    have hfm : (j :: σ).filterMap (fun i => all[i]?) = o :: σ.filterMap (fun i => all[i]?) := by simp [ho]
    rw [hfm]
    -- a value into the slot, of an operation that changes no more
    have hput : ∀ d, S (j + 1) = (S j).put o.dst d → (Hv all j → S (j + 1) = (S j).put o.dst d) → Inv all S (fun i => D i ∨ i = j) (c.put o.dst d) := by
      intro d e _
      refine inv_step hp hS hD hI hj hn hb (put_len _ _ _) (fun t ht => put_far _ _ (fun h => ht ⟨o, ho, .inl h⟩)) (fun t ht => ?_) (fun hh => ?_) (fun _ => by rw [put_h, put_d, put_r']; exact ⟨rfl, rfl, rfl⟩)
      · rw [e]
        by_cases hd : o.dst = some t
        · rw [hd]; exact put_near _ _ hlen t d
        · rw [put_far _ _ hd, put_far _ _ hd]; exact at_turn hp hS hD hI hj hn hb ht
      · rw [e, put_h, put_d, put_r', put_h, put_d, put_r']; exact mem_turn hp hS hD hI hj hn hb hh
    -- of one that does
    have hbig : ∀ d (s1 c1 : St), S (j + 1) = s1.put o.dst d → heavy o.op = true → Both (opTs o.op) (S j) c s1 c1 → Inv all S (fun i => D i ∨ i = j) (c1.put o.dst d) := by
      intro d s1 c1 e hh hB
      refine inv_step hp hS hD hI hj hn hb ((put_len _ _ _).trans hB.r.len) (fun t ht => ?_) (fun t ht => ?_) (fun _ => ?_) (fun h => absurd ⟨o, ho, hh⟩ h)
      · rw [put_far _ _ (fun h => ht ⟨o, ho, .inl h⟩)]
        exact hB.r.far t (fun h => ht ⟨o, ho, .inr ⟨hh, opTs_names h⟩⟩)
      · rw [e]
        by_cases hd : o.dst = some t
        · rw [hd]; exact (put_near _ _ hB.ag.t.1 t d).symm
        · rw [put_far _ _ hd, put_far _ _ hd]
          by_cases hm : t ∈ opTs o.op
          · exact (hB.ag.t.2 t hm).symm
          · rw [hB.r.far t hm, hB.l.far t hm]; exact at_turn hp hS hD hI hj hn hb ht
      · rw [e, put_h, put_d, put_r', put_h, put_d, put_r']; exact ⟨hB.ag.h.symm, hB.ag.d.symm, hB.ag.r.symm⟩
    have hag : heavy o.op = true → Ag (opTs o.op) (S j) c := by
      intro hh
      obtain ⟨m1, m2, m3⟩ := mem_turn hp hS hD hI hj hn hb ⟨o, ho, hh⟩
      exact ⟨m1.symm, m2.symm, m3.symm, hlen.symm, fun t ht => (at_turn hp hS hD hI hj hn hb ⟨o, ho, .inr ⟨hh, opTs_names ht⟩⟩).symm⟩
    cases hS j o ho with
    | skip hw' e => exact mo_skip (by rw [hw]; exact hw') (ih hD' _ (hput _ e (fun _ => e)))
    | light d hw' hh hx e hr =>
      exact mo_val (rest' := []) (by rw [hw]; exact hw') (light_op (light_look hp hS hD hI hj hn hb ho hw' hh hx hr)) (ih hD' _ (hput _ e (fun _ => e)))
    | oper d s1 hw' hh hc hk hx e =>
      obtain ⟨c1, k1, k2⟩ := heavy_ag hh (hag hh) hx
      exact mo_val (rest' := []) (by rw [hw]; exact hw') k1 (ih hD' _ (hbig d s1 c1 e hh k2))
    | call d s1 g args rc hw' hh hc hk hm hv e =>
      obtain ⟨c1, k1, k2⟩ := kind_ag (hag hh) hk
      refine mo_go (by rw [hw]; exact hw') k1 (rc := rc) (by rw [← k2.ag.h]; exact hm) (.inl ⟨d, hv, ih hD' _ (hbig d { s1 with h := rc.2 } { c1 with h := rc.2 } e hh (k2.mem _))⟩)

end

end Go.Abs

namespace Go.Abs

section
variable {P : Program} {F : Fr} {w : World} {G : Gh} {tm : List Value} {df : List Deferred} {k : List Item} {cs : List Frame} {s : St}

/-- One slot is sealed. -/
theorem seal_one (h : RelSt w G tm df [] [] s) (t : Tmp) (hn : notTup (s.t.getD t Zav) = true) :
    ∃ G', RelSt w G' tm df [] [] { s with t := s.t.set t (kep (s.t.getD t Zav)) } ∧ Ext w G (cntS w G tm [] [] s) w G' (cntS w G' tm [] [] { s with t := s.t.set t (kep (s.t.getD t Zav)) }) := by
  cases ho : ownD (s.t.getD t Zav) with
  | false =>
    have hk := (kep_same ho hn).1
    rw [hk, set_getD_sameD]
    exact ⟨G, h, .refl _ _ _⟩
  | true =>
    have hsh : sh s (.tmp t) = some (shr (s.t.getD t Zav), { s with t := s.t.set t (kep (s.t.getD t Zav)) }) := by
      simp only [sh, ho, if_true]
      cases hd : s.t.getD t Zav <;> simp_all [notTup]
    obtain ⟨G2, m1, m2, m3, _⟩ := sh_rel h hsh
    exact ⟨G2, m1.drop, m3.weaken (fun b => Nat.le_refl _) (fun b hb => Nat.le_trans (Zgm b) (m3.cnt b hb))⟩

theorem seal_ops : ∀ (ops : List Oper) {G : Gh} {s : St}, RelSt w G tm df [] [] s →
    ∃ G', RelSt w G' tm df [] [] (Zgz ops s) ∧ Ext w G (cntS w G tm [] [] s) w G' (cntS w G' tm [] [] (Zgz ops s)) ∧ (Zgz ops s).r = s.r ∧ (Zgz ops s).d = s.d
  | [], G, s, h => ⟨G, h, .refl _ _ _, rfl, rfl⟩
  | o :: ops, G, s, h => by
    have : ∃ s1 : St, Zgz (o :: ops) s = Zgz ops s1 ∧ s1.r = s.r ∧ s1.d = s.d ∧ ∃ G', RelSt w G' tm df [] [] s1 ∧ Ext w G (cntS w G tm [] [] s) w G' (cntS w G' tm [] [] s1) := by
      simp only [Zgz, List.foldl_cons]
      refine ⟨_, rfl, ?_, ?_, ?_⟩
      · split
        · split <;> rfl
        · rfl
      · split
        · split <;> rfl
        · rfl
      · split
        · rename_i t hop
          split
          · exact ⟨G, h, .refl _ _ _⟩
          · rename_i hnt
            exact seal_one h t (by cases hd : s.t.getD t Zav <;> simp_all [notTup])
        · exact ⟨G, h, .refl _ _ _⟩
    obtain ⟨s1, e, e1, e2, G1, h1, x1⟩ := this
    obtain ⟨G2, h2, x2, e3, e4⟩ := seal_ops ops h1
    rw [e]
    exact ⟨G2, h2, x1.trans x2, e3.trans e1, e4.trans e2⟩

theorem go_draw {id : Nat} {ops : Array Oper} : ∃ t, step P (lone (mkF F tm df (.code (.region id ops true) :: k)) cs w) = .next (lone (mkF F tm df (.inRegion ops (Region.schedule (P.follows .mixedOrders) ops t) :: k)) cs w.drew) := by
  exact ⟨w.tape w.drawn (.order F.fn id), step_lone_go (by simp [stepG, stepG.exec, mkF, choose, Sem.run, Question.forced, Question.cut])⟩

theorem me_draw (hmix : P.follows .mixedOrders = true) {fn : FuncId} {id : Nat} {ops : Array Oper} {plan : List Todo} {r : Abs.X × St} (hp : Zgh ops = some plan) (ht : Tr P ops plan [] [] (Zgz ops.toList s) r) : ME P fn (.region id ops true) s r := by
  have hpl : Plan ops := by
    unfold Zgh at hp
    split at hp
    · rename_i h; exact plan_of h
    · simp at hp
  obtain ⟨S, e1, e2, hS', _⟩ := tr_run hp ht 0 (fun _ => Zgz ops.toList s) (by simp) (by omega) rfl ⟨fun i hi => absurd hi (by omega), fun i hi => absurd hi (by omega), fun a ha => by simp at ha⟩
  have hS : ∀ (j : Nat) o, ops[j]? = some o → StepOK P ops S j o := fun j o ho => hS' j o (by omega) ho
  refine .of (by simp) fun F w G tm df k cs hF h' => ?_
  obtain ⟨t, hst⟩ := go_draw (P := P) (F := F) (tm := tm) (df := df) (k := k) (cs := cs) (w := w) (id := id) (ops := ops)
  obtain ⟨a1, a2⟩ := h'.rel.drew
  obtain ⟨G1, b1, b2, b3, b4⟩ := seal_ops ops.toList a1
  have hlin := lin_schedule hpl t
  rw [← hmix] at hlin
  have hS0 : S 0 = Zgz ops.toList s := e1 0 (Nat.le_refl _)
  have hI : Inv ops S (fun _ => False) (Zgz ops.toList s) := by
    refine ⟨by rw [hS0], fun t k hk hc => ?_, fun k hk hc => ?_⟩
    · have := far_all hS (t := t) (a := 0) k (by omega) (fun i _ h2 hi => ((hc i hi).2 (by omega)).elim)
      rw [Nat.zero_add, hS0] at this; exact this.symm
    · have := mem_all hS (a := 0) k (by omega) (fun i _ h2 hi => ((hc i hi).2 (by omega)).elim)
      rw [Nat.zero_add, hS0] at this; exact ⟨this.1.symm, this.2.1.symm, this.2.2.symm⟩
  have hmo := mo_lin hpl hS hlin (fun j h => h.elim) _ hI
  have hall : ∀ {D : Nat → Prop} {σ : List Nat}, Lin ops D σ → ∀ i ∈ σ, i < ops.size := by
    intro D σ h
    induction h with
    | nil => simp
    | cons D j σ hj hn hb t ih =>
      intro i hi
      rcases List.mem_cons.1 hi with rfl | hi
      · exact hj
      · exact ih i hi
  have his : (Region.schedule (P.follows .mixedOrders) ops t).map (fun i => ops[i]?) = ((Region.schedule (P.follows .mixedOrders) ops t).filterMap fun i => ops[i]?).map some := by
    have := hall hlin
    generalize Region.schedule (P.follows .mixedOrders) ops t = σ at this
    induction σ with
    | nil => rfl
    | cons i σ ih =>
      have hi := this i (by simp)
      simp only [List.map_cons, List.filterMap_cons, Array.getElem?_eq_getElem hi]
      rw [ih (fun j hj => this j (by simp [hj]))]
  rw [e2]
  have hr : (Zgz ops.toList s).r = s.r := b3
  obtain ⟨w2, G2, tm2, df2, cs2, c1, c2, c3⟩ := hmo F w.drew G1 tm df k cs _ his ⟨b1, by rw [hr]; exact h'.rc.keep (a2.trans b2).later, h'.mks⟩
  refine ⟨w2, G2, tm2, df2, cs2, c1.of_steps (.one hst), c2, ?_⟩
  have t1 : To F w G tm df cs s w.drew G1 tm df cs (Zgz ops.toList s) :=
    ⟨(a2.trans b2).weaken (fun b => by omega) (fun b hb => by have := (a2.trans b2).cnt b hb; omega), by rw [hr]; exact .refl _ _, fun _ => rfl⟩
  exact t1.trans c3

end

end Go.Abs

namespace Go.Abs

section
variable {P : Program} {pr : FuncId → List D → Option D} {cv : FuncId → Nat → List Cv}

theorem sound (hmix : P.follows .mixedOrders = true) (hpr : ∀ f args d h, pr f args = some d → MC P (.fn f) args h (.val d, h)) :
    (∀ fn c s r, exec P pr cv fn c s = some r → ME P fn c s r) ∧ (∀ g args h r, call P pr cv g args h = some r → MC P g args h r) ∧ (∀ l u h r, undo P pr cv l u h = some r → MU P l u h r) ∧
    (∀ fn body c s r, execIn P pr cv fn body c s = some r → MI P fn body c s r) ∧ (∀ all l hs ag s r, Zge P pr cv all l hs ag s = some r → Tr P all l hs ag s r) ∧
    (∀ all l s r, exOps P pr cv all l s = some r → MO P all l s r) := by
  refine exec.mutual_partial_correctness P pr cv (fun fn c s r => ME P fn c s r) (fun g args h r => MC P g args h r) (fun l u h r => MU P l u h r) (fun fn body c s r => MI P fn body c s r)
    (fun all l hs ag s r => Tr P all l hs ag s r) (fun all l s r => MO P all l s r) ?_ ?_ ?_ ?_ ?_ ?_
  · -- code
    intro exec call execIn Zge exOps h1 h2 h4 h5 h6 fn c s r hx
    cases c with
    | skip => cases hx; exact me_skip
    | label l => cases hx; exact me_label
    | region id ops draw =>
      cases draw with
      | false => exact ME.ghost (by simp) (fun h => preCv_rel _ h) (me_region (h6 _ _ _ _ hx))
      | true =>
        simp only at hx
        split at hx
        · rename_i l hl
          exact ME.ghost (by simp) (fun h => preCv_rel _ h) (me_draw hmix hl (h5 _ _ _ _ _ _ hx))
        · simp at hx
    | seq a b =>
      simp only [Option.bind_eq_bind, Option.bind_eq_some_iff] at hx
      obtain ⟨r1, hr, hx⟩ := hx
      split at hx
      · rename_i hn
        exact me_seq (h1 _ _ _ _ hr) (.inl ⟨hn, h1 _ _ _ _ hx⟩)
      · rename_i hn
        refine me_seq (h1 _ _ _ _ hr) (.inr ⟨hn, ?_⟩)
        cases hx; rfl
    | cond c a b =>
      simp only at hx
      split at hx
      · rename_i t hc
        refine me_cond hc ?_
        cases t
        · exact h1 _ _ _ _ hx
        · exact h1 _ _ _ _ hx
      · simp at hx
    | block id c =>
      simp only [Option.bind_eq_bind, Option.bind_eq_some_iff] at hx
      obtain ⟨r1, hr, hx⟩ := hx
      split at hx
      · rename_i i hi
        split at hx
        · rename_i he
          subst he
          cases hx
          exact me_block (h1 _ _ _ _ hr) (.inl ⟨hi, rfl⟩)
        · rename_i he
          cases hx
          refine me_block (h1 _ _ _ _ hr) (.inr ⟨by rw [hi]; simpa using he, ?_⟩)
          rw [← hi]
      · rename_i hn
        cases hx
        exact me_block (h1 _ _ _ _ hr) (.inr ⟨fun e => hn id e, rfl⟩)
    | loop c =>
      simp only [Option.bind_eq_bind, Option.bind_eq_some_iff] at hx
      obtain ⟨r1, hr, hx⟩ := hx
      split at hx
      · rename_i hn
        exact me_loop (h1 _ _ _ _ hr) (.inl ⟨hn, h1 _ _ _ _ hx⟩)
      · rename_i hn
        refine me_loop (h1 _ _ _ _ hr) (.inr ⟨hn, ?_⟩)
        cases hx; rfl
    | scope c => exact me_scope (h4 _ _ _ _ _ hx)
    | rangeFunc f ps asg body =>
      simp only at hx
      split at hx
      · rename_i g first cap hf
        split at hf
        · rename_i hk
          split at hx
          · rename_i hno
            simp only [Option.bind_eq_bind, Option.bind_eq_some_iff] at hx
            obtain ⟨rc, hr, hx⟩ := hx
            exact me_rangeFunc hk hf hno (h2 _ _ _ _ hr) hx
          · simp at hx
        · simp at hf
      · simp at hx
    | exit id => cases hx; exact me_exit
    | goto l => cases hx; exact me_goto
    | ret => cases hx; exact me_ret
    | refuse why => simp at hx
  · -- calls
    intro exec undo h1 h3 g args h r hx
    cases g with
    | fn f =>
      simp only at hx
      split at hx
      · rename_i d hd
        cases hx
        exact hpr f args d h hd
      · split at hx
        · rename_i fn hf
          split at hx
          · rename_i c hb
            simp only [Option.bind_eq_bind, Option.bind_eq_some_iff] at hx
            obtain ⟨r1, hr, hx⟩ := hx
            split at hx
            · rename_i u hu
              simp only [Option.bind_eq_some_iff] at hx
              obtain ⟨q, hq, hx⟩ := hx
              exact mc_fn hf hb (h1 _ _ _ _ hr) hu (h3 _ _ _ _ hq) hx
            · simp at hx
          · simp at hx
        · simp at hx
    | dfn f u =>
      simp only at hx
      split at hx
      · rename_i fn hf
        split at hx
        · rename_i c hb
          split at hx
          · rename_i hres
            simp only [Option.bind_eq_bind, Option.bind_eq_some_iff] at hx
            obtain ⟨r1, hr, hx⟩ := hx
            refine mc_dfn hf hb hres (h1 _ _ _ _ ?_) hx
            rw [← hr]
            cases u <;> rfl
          · simp at hx
        · simp at hx
      · simp at hx
    | round l =>
      simp only at hx
      split at hx
      · rename_i st pd fn env ps asg body hfl
        split at hx
        · rename_i hps
          simp only [Option.bind_eq_bind, Option.bind_eq_some_iff] at hx
          obtain ⟨r1, hr, hx⟩ := hx
          split at hx
          · rename_i h2 hX hb
            simp only [Option.bind_eq_some_iff] at hx
            obtain ⟨q, hq, hx⟩ := hx
            exact mc_round hfl hps (h1 _ _ _ _ hr) hX hb (h1 _ _ _ _ hq) hx
          · simp at hx
        · simp at hx
      · simp at hx
  · -- deferred calls
    intro call undo h2 h3 l u h r hx
    cases l with
    | nil => cases hx; exact mu_nil
    | cons x ds =>
      obtain ⟨g, args⟩ := x
      simp only [Option.bind_eq_bind, Option.bind_eq_some_iff] at hx
      obtain ⟨rc, hr, hx⟩ := hx
      split at hx
      · rename_i d hv
        exact mu_cons (h2 _ _ _ _ hr) (.inl ⟨⟨d, hv⟩, rfl⟩) (h3 _ _ _ _ hx)
      · rename_i d hv
        exact mu_cons (h2 _ _ _ _ hr) (.inr ⟨⟨d, hv⟩, rfl⟩) (h3 _ _ _ _ hx)
      · simp at hx
  · -- scopes
    intro exec execIn h1 h4 fn body c s r hx
    simp only [Option.bind_eq_bind, Option.bind_eq_some_iff] at hx
    obtain ⟨r1, hr, hx⟩ := hx
    split at hx
    · rename_i l hl
      split at hx
      · rename_i rest hf
        exact mi_in (h1 _ _ _ _ hr) (.inl ⟨l, rest, hl, hf, h4 _ _ _ _ _ hx⟩)
      · rename_i hf
        cases hx
        refine mi_in (h1 _ _ _ _ hr) (.inr ⟨fun l' hl' => ?_, by rw [← hl]⟩)
        rw [hl] at hl'; cases hl'; exact hf
    · rename_i hn
      cases hx
      exact mi_in (h1 _ _ _ _ hr) (.inr ⟨fun l hl => absurd hl (hn l), rfl⟩)
  · -- regions whose order is open
    intro call Zge h2 h5 all l hs ag s r hx
    cases l with
    | nil => cases hx; exact .nil _ _ _
    | cons td rest =>
      simp only at hx
      split at hx
      · simp at hx
      · rename_i o ho
        split at hx
        · rename_i hw
          split at hx
          · rename_i hh
            split at hx
            · rename_i hc
              split at hx
              · simp at hx
              · rename_i g args s1 hk
                simp only [Option.bind_eq_bind, Option.bind_eq_some_iff] at hx
                obtain ⟨rc, hr, hx⟩ := hx
                split at hx
                · rename_i d hv
                  split at hx
                  · rename_i ha
                    exact .call td rest hs ag s o r d s1 g args rc ho hw hh hc hk (h2 _ _ _ _ hr) hv ha (h5 _ _ _ _ _ _ hx)
                  · simp at hx
                · simp at hx
              · rename_i hk
                split at hx
                · rename_i d s1 hex
                  split at hx
                  · rename_i ha
                    exact .oper td rest hs ag s o r d s1 ho hw hh hc hk hex ha (h5 _ _ _ _ _ _ hx)
                  · simp at hx
                · simp at hx
            · simp at hx
          · rename_i hh
            split at hx
            · rename_i d hl
              split at hx
              · split at hx
                · rename_i hb
                  exact .read td rest hs ag s o r d ho hw (by simpa using hh) hl hb (h5 _ _ _ _ _ _ hx)
                · simp at hx
              · rename_i hrd
                exact .light td rest hs ag s o r d ho hw (by simpa using hh) (by simpa using hrd) hl (h5 _ _ _ _ _ _ hx)
            · simp at hx
        · rename_i hw
          exact .skip td rest hs ag s o r ho (by simpa using hw) (h5 _ _ _ _ _ _ hx)
  · -- regions
    intro call exOps h2 h6 all l s r hx
    cases l with
    | nil => cases hx; exact mo_nil
    | cons o rest =>
      simp only at hx
      split at hx
      · rename_i hw
        split at hx
        · simp at hx
        · rename_i g args s1 hk
          simp only [Option.bind_eq_bind, Option.bind_eq_some_iff] at hx
          obtain ⟨rc, hr, hx⟩ := hx
          split at hx
          · rename_i d hv
            exact mo_go hw hk (h2 _ _ _ _ hr) (.inl ⟨d, hv, h6 _ _ _ _ hx⟩)
          · rename_i d hv
            cases hx
            exact mo_go hw hk (h2 _ _ _ _ hr) (.inr ⟨d, hv, rfl⟩)
          · simp at hx
        · split at hx
          · rename_i d s1 hex
            exact mo_val hw hex (h6 _ _ _ _ hx)
          · rename_i d s1 hex
            cases hx
            exact mo_pan hw hex
          · simp at hx
      · rename_i hw
        exact mo_skip (by simpa using hw) (h6 _ _ _ _ hx)

end

end Go.Abs
