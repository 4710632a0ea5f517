/-
  WIRE: what is put is taken, number by number. WIRE: one datagram, one payload. WIRE: Take; a ping. WIRE: what the document says of a ping. WIRE: two messages that may be have one datagram just if they are the same. A GIVEN FUNCTION that hands back a fresh slice: what is said of its call by the kit, turned into what the evaluator needs. No condition.
-/
import Derived.Test.YtkimilghfbgjmaaP24
import Derived.Test.YtkimilghfbgjmaaP21
import Derived.Test.YtkimilghfbgjmaaP12

namespace Go.Abs
open Go Go.Proofs

theorem u8_mod (n : Nat) : (UInt8.ofNat n).toNat = n % 256 := by simp
theorem digs_zero : digs 0 = [] := by rw [digs]; simp
theorem digs_cons {n : Nat} (h : 0 < n) : digs n = UInt8.ofNat n :: digs (n / 256) := by rw [digs]; simp [h]
theorem valB_digs : ∀ n : Nat, valB (digs n).reverse = n := by
  intro n
  induction n using Nat.strongRecOn with
  | _ n ih =>
    by_cases h : 0 < n
    · rw [digs_cons h, List.reverse_cons, valB_snoc, ih (n / 256) (by omega), u8_mod]; omega
    · have : n = 0 := by omega
      subst this; rw [digs_zero]; rfl
theorem digs_ne {n : Nat} (h : 0 < n) : digs n ≠ [] := by rw [digs_cons h]; simp
theorem digs_last : ∀ n : Nat, ∀ h : 0 < n, 0 < ((digs n).getLast (digs_ne h)).toNat := by
  intro n
  induction n using Nat.strongRecOn with
  | _ n ih =>
    intro h
    by_cases h2 : 0 < n / 256
    · have e : (digs n).getLast (digs_ne h) = (digs (n / 256)).getLast (digs_ne h2) := by
        simp only [digs_cons h]; rw [List.getLast_cons (digs_ne h2)]
      rw [e]; exact ih _ (by omega) h2
    · have e : digs n = [UInt8.ofNat n] := by rw [digs_cons h, show n / 256 = 0 by omega, digs_zero]
      simp only [e, List.getLast_singleton, u8_mod]; omega
theorem putL_eq (n : Nat) : putL n = UInt8.ofNat (digs n).length :: (digs n).reverse := by simp [putL]
theorem takeB_putL (n : Nat) (r : List UInt8) (hn : n ≤ 1099511627776) : takeB (putL n ++ r) = .ok n r := by
  have h6 := digs_len n hn
  have hm : (UInt8.ofNat (digs n).length).toNat = (digs n).length := by rw [u8_mod]; omega
  rw [putL_eq, List.cons_append, takeB]
  simp only [hm]
  rw [if_neg (by omega), if_neg (by simp)]
  by_cases h : 0 < n
  · have hl : 0 < (digs n).length := by rw [digs_cons h]; simp
    have hv : valB (((digs n).reverse ++ r).take (digs n).length) = n := by
      rw [List.take_append_of_le_length (by simp), List.take_of_length_le (by simp), valB_digs]
    have hd : 0 < (((digs n).reverse ++ r).getD 0 0).toNat := by
      have e := digs_last n h
      have e2 : (digs n).reverse = (digs n).getLast (digs_ne h) :: ((digs n).dropLast).reverse := by
        conv => lhs; rw [← List.dropLast_concat_getLast (digs_ne h)]
        simp
      rw [e2]; simpa using e
    rw [if_neg (by omega), hv, if_pos ⟨hd, hn⟩, List.drop_append_of_le_length (by simp), List.drop_of_length_le (by simp)]; simp
  · have : n = 0 := by omega
    subst this
    simp [digs_zero]
theorem parN_putL (n : Nat) (r : List UInt8) (hn : n ≤ 1099511627776) : parN (putL n ++ r) = some (n, r) := by simp [parN, takeB_putL n r hn]
theorem parN_num (x : Int) (r : List UInt8) (h0 : 0 ≤ x) (hn : x ≤ 1099511627776) : parN (numsL [x] ++ r) = some (x.toNat, r) := by
  have := parN_putL x.toNat r (by omega)
  simpa [numsL] using this
theorem parB_bit (b : Bool) (r : List UInt8) : parB (numsL [bitZ b] ++ r) = some (b, r) := by
  have := parN_num (bitZ b) r (by cases b <;> decide) (by cases b <;> decide)
  rw [parB, this]
  cases b <;> simp [bitZ]
theorem takeT_textL (s : ByteArray) (r : List UInt8) (hs : s.size < 256) : takeT (textL s ++ r) = some (sL s, r) := by
  have hm : (UInt8.ofNat s.size).toNat = (sL s).length := by rw [u8_mod, sL_len]; omega
  rw [textL, List.cons_append, takeT]
  simp only [hm]
  rw [if_neg (by simp), List.take_append_of_le_length (by simp), List.take_of_length_le (by simp), List.drop_append_of_le_length (by simp), List.drop_of_length_le (by simp)]
  simp
def natsI (xs : List Int) : List Nat := xs.map Int.toNat
theorem takeNs_nums (xs : List Int) (r : List UInt8) (hx : ∀ x ∈ xs, 0 ≤ x ∧ x ≤ 1099511627776) : takeNs xs.length (numsL xs ++ r) = .ok (natsI xs, r) := by
  induction xs with
  | nil => simp [takeNs, numsL, natsI]
  | cons x xs ih =>
    have h1 := hx x (by simp)
    have ih := ih fun y hy => hx y (by simp [hy])
    have e : numsL (x :: xs) ++ r = putL x.toNat ++ (numsL xs ++ r) := by simp [numsL]
    rw [List.length_cons, takeNs, e, takeB_putL _ _ (by omega)]
    simp only [ih, natsI, List.map_cons]
theorem takeL_listB (xs : List Int) (r : List UInt8) (hl : xs.length < 256) (hx : ∀ x ∈ xs, 0 ≤ x ∧ x ≤ 1099511627776) : takeL (listB xs ++ r) = .ok (natsI xs, r) := by
  have hm : (UInt8.ofNat xs.length).toNat = xs.length := by rw [u8_mod]; omega
  rw [listB, List.cons_append, takeL, hm, takeNs_nums xs r hx]
theorem parL_listB (xs : List Int) (r : List UInt8) (hl : xs.length < 256) (hx : ∀ x ∈ xs, 0 ≤ x ∧ x ≤ 1099511627776) : parL (listB xs ++ r) = some (natsI xs, r) := by
  rw [parL, takeL_listB xs r hl hx]
theorem intsN_natsI (xs : List Int) (hx : ∀ x ∈ xs, 0 ≤ x ∧ x ≤ 1099511627776) : intsN (natsI xs) = xs := by
  induction xs with
  | nil => rfl
  | cons x xs ih =>
    have h1 := hx x (by simp)
    have ih := ih fun y hy => hx y (by simp [hy])
    simp only [natsI, intsN, List.map_cons, List.map_map] at ih ⊢
    rw [ih]
    congr 1; omega
theorem parP_pair (k : ByteArray) (v n : Int) (g : Bool) (r : List UInt8) (hk : k.size < 256) (hv : 0 ≤ v ∧ v ≤ 1099511627776) (hn : 0 ≤ n ∧ n ≤ 1099511627776) : parP (pairL k v n g ++ r) = some (⟨sL k, v.toNat, n.toNat, g⟩, r) := by
  have e : pairL k v n g ++ r = textL k ++ (numsL [v] ++ (numsL [n] ++ (numsL [bitZ g] ++ r))) := by simp [pairL, numsL]
  rw [e, parP, takeT_textL _ _ hk]
  simp only [parN_num v _ hv.1 hv.2, parN_num n _ hn.1 hn.2, parB_bit]
theorem BA_sL (s : ByteArray) : BA (sL s) = s := by cases s; simp [BA, sL]

/-- What its kind has is read: the message then, and what is behind. -/
def fillM (m : Msg) (l : List UInt8) : Option (Msg × List UInt8) :=
  if m.kind = 4 then (match parN l with
    | some (k, r) => (match parB r with
      | some (b, r) => some ({ m with key := (k : Int), slow := b }, r)
      | none => none)
    | none => none) else
  if m.kind = 5 then (match parP l with
    | some (x, r) => some ({ m with ikey := BA x.key, ival := (x.val : Int), iver := (x.ver : Int), gone := x.gone }, r)
    | none => none) else
  if m.kind = 6 then (match takeT l with
    | some (s, r) => some ({ m with ikey := BA s }, r)
    | none => none) else
  if m.kind = 7 then (match parN l with
    | some (k, r) => (match parL r with
      | some (ns, r) => some ({ m with pred := IntKind.i64.wrap ((k : Int) - 1), list := intsN ns }, r)
      | none => none)
    | none => none) else
  if m.kind = 10 then (match parN l with
    | some (k, r) => (match parB r with
      | some (b, r) => some ({ m with place := (k : Int), done := b }, r)
      | none => none)
    | none => none) else
  if m.kind = 11 then (match parN l with
    | some (k, r) => some ({ m with code := (k : Int) }, r)
    | none => none) else
  if m.kind = 12 then (match parN l with
    | some (k, r) => if k = 0 then (match parP r with
      | some (x, r) => some ({ m with code := 0, ikey := BA x.key, ival := (x.val : Int), iver := (x.ver : Int), gone := x.gone }, r)
      | none => none) else some ({ m with code := (k : Int) }, r)
    | none => none) else some (m, l)
theorem listZ_num {l : List Int} {frm : Int} (h : listZ l frm = true) : l.length ≤ 3 ∧ ∀ x ∈ l, 0 ≤ x ∧ x ≤ 1099511627776 := by
  simp only [listZ, Bool.and_eq_true, decide_eq_true_eq] at h
  refine ⟨by omega, fun x hx => ?_⟩
  obtain ⟨j, hj, rfl⟩ := List.getElem_of_mem hx
  have := isPlace_iff.1 (h.1 j _ hj (List.getElem?_eq_getElem hj)).1
  omega
theorem fill_body (m : Msg) (hf : m.Fits) (r : List UInt8) : fillM m.head (bodyL m ++ r) = some (m, r) := by
  have hk1 := hf.k1
  have hk2 := hf.k2
  have hff := hf.fine
  have ho := hf.off
  unfold fillM bodyL
  simp only [show m.head.kind = m.kind from rfl, beq_iff_eq]
  by_cases h4 : m.kind = 4
  · simp [Msg.fine, h4] at hff
    have hp := isPlace_iff.1 hff
    simp only [h4, if_true, List.append_assoc, parN_num m.key _ hp.1 (by omega), parB_bit]
    simp [Msg.off, h4, Msg.head] at ho
    cases m; simp [Msg.head] at ho h4 hp ⊢; simp_all; omega
  by_cases h5 : m.kind = 5
  · simp [Msg.fine, h5] at hff
    have hp := finePair_iff.1 hff
    simp [h5, parP_pair m.ikey m.ival m.iver m.gone r (by omega) (by omega) (by omega), BA_sL]
    simp [Msg.off, h5, Msg.head, Msg.noItem] at ho
    cases m; simp [Msg.head] at ho h5 hp ⊢; simp_all; omega
  by_cases h6 : m.kind = 6
  · simp [Msg.fine, h6] at hff
    have hp := fineKey_iff.1 hff
    simp [h6, takeT_textL m.ikey r (by omega), BA_sL]
    simp [Msg.off, h6, Msg.head] at ho
    cases m; simp [Msg.head] at ho h6 hp ⊢; simp_all
  by_cases h7 : m.kind = 7
  · simp [Msg.fine, h7] at hff
    obtain ⟨hl, hx⟩ := listZ_num hff.2
    have hpp : -1 ≤ m.pred ∧ m.pred < 65536 := by
      rcases hff.1 with h | h
      · omega
      · have := isPlace_iff.1 h; omega
    have hw : IntKind.i64.wrap (m.pred + 1) = m.pred + 1 := wrap64 (by omega) (by omega)
    simp only [h7, Int.reduceEq, if_true, if_false, List.append_assoc, hw, parN_num (m.pred + 1) _ (by omega) (by omega), parL_listB m.list r (by omega) hx, intsN_natsI m.list hx]
    have e : IntKind.i64.wrap (((m.pred + 1).toNat : Int) - 1) = m.pred := by rw [wrap64 (by omega) (by omega)]; omega
    rw [e]
    simp [Msg.off, h7, Msg.head] at ho
    cases m; simp [Msg.head] at ho h7 ⊢; simp_all
  by_cases h10 : m.kind = 10
  · simp [Msg.fine, h10] at hff
    have hp := isPlace_iff.1 hff
    simp only [h10, Int.reduceEq, if_true, if_false, List.append_assoc, parN_num m.place _ hp.1 (by omega), parB_bit]
    simp [Msg.off, h10, Msg.head] at ho
    cases m; simp [Msg.head] at ho h10 hp ⊢; simp_all; omega
  by_cases h11 : m.kind = 11
  · simp [Msg.fine, h11] at hff
    have hp : 0 ≤ m.code ∧ m.code ≤ 1099511627776 := by omega
    simp only [h11, Int.reduceEq, if_true, if_false, List.append_assoc, parN_num m.code _ hp.1 hp.2]
    simp [Msg.off, h11, Msg.head] at ho
    cases m; simp [Msg.head] at ho h11 hp ⊢; simp_all; omega
  by_cases h12 : m.kind = 12
  · simp [Msg.fine, h12] at hff
    simp [Msg.off, h12, Msg.head, Msg.noItem] at ho
    rcases hff with ⟨hc, hpp⟩ | ⟨hc, hr⟩
    · have hp := finePair_iff.1 hpp
      have e := parN_num (0 : Int) (pairL m.ikey m.ival m.iver m.gone ++ r) (by decide) (by decide)
      simp only [h12, hc, Int.reduceEq, if_true, if_false, List.append_assoc, e, parP_pair m.ikey m.ival m.iver m.gone r (by omega) (by omega) (by omega), BA_sL, show (0 : Int).toNat = 0 from rfl]
      cases m; simp [Msg.head] at ho h12 hp hc ⊢; simp_all; omega
    · have e := parN_num (201 : Int) r (by decide) (by decide)
      simp only [h12, hc, Int.reduceEq, if_true, if_false, List.append_assoc, List.append_nil, e, show (201 : Int).toNat = 201 from rfl, show ¬ (201 : Nat) = 0 by decide]
      have hr1 : m.ikey = { data := #[] } := by simpa [bab] using hr.1
      cases m; simp [Msg.head] at ho h12 hc hr hr1 ⊢; simp_all
  · simp only [h4, h5, h6, h7, h10, h11, h12, if_false, List.nil_append]
    have e1 : (m.kind == 4) = false := by simpa using h4
    have e2 : (m.kind == 5) = false := by simpa using h5
    have e3 : (m.kind == 6) = false := by simpa using h6
    have e4 : (m.kind == 7) = false := by simpa using h7
    have e5 : (m.kind == 10) = false := by simpa using h10
    have e6 : (m.kind == 11) = false := by simpa using h11
    have e7 : (m.kind == 12) = false := by simpa using h12
    simp only [Msg.off, e1, e2, e3, e4, e5, e6, e7, Bool.false_eq_true, if_false] at ho
    rw [← ho]

/-- The head is read. -/
theorem heads_pay (m : Msg) (hf : m.Fits) (r : List UInt8) : Heads (payL m ++ r) (bodyL m ++ r) m.kind.toNat m.call.toNat m.frm.toNat m.to.toNat := by
  obtain ⟨h0, h1, h2, h3⟩ := fits_okN hf
  simp only [okN, Bool.and_eq_true, decide_eq_true_eq] at h0 h1 h2 h3
  have e : payL m ++ r = numsL [m.kind] ++ (numsL [m.call] ++ (numsL [m.frm] ++ (numsL [m.to] ++ (bodyL m ++ r)))) := by simp [payL, headL, numsL]
  refine ⟨_, _, _, ?_, parN_num m.call _ h1.1 h1.2, parN_num m.frm _ h2.1 h2.2, parN_num m.to _ h3.1 h3.2⟩
  rw [e]; exact parN_num m.kind _ h0.1 h0.2
theorem Heads.det {l r r' : List UInt8} {a b c d a' b' c' d' : Nat} (h : Heads l r a b c d) (h' : Heads l r' a' b' c' d') : r = r' ∧ a = a' ∧ b = b' ∧ c = c' ∧ d = d' := by
  obtain ⟨l1, l2, l3, p0, p1, p2, p3⟩ := h.ex
  obtain ⟨k1, k2, k3, q0, q1, q2, q3⟩ := h'.ex
  rw [p0] at q0; simp at q0; obtain ⟨rfl, rfl⟩ := q0
  rw [p1] at q1; simp at q1; obtain ⟨rfl, rfl⟩ := q1
  rw [p2] at q2; simp at q2; obtain ⟨rfl, rfl⟩ := q2
  rw [p3] at q3; simp at q3; obtain ⟨rfl, rfl⟩ := q3
  exact ⟨rfl, rfl, rfl, rfl, rfl⟩
theorem fits_nat {m : Msg} (hf : m.Fits) : (m.kind.toNat : Int) = m.kind ∧ (m.call.toNat : Int) = m.call ∧ (m.frm.toNat : Int) = m.frm ∧ (m.to.toNat : Int) = m.to := by
  obtain ⟨h0, h1, h2, h3⟩ := fits_okN hf
  simp only [okN, Bool.and_eq_true, decide_eq_true_eq] at h0 h1 h2 h3
  omega
/-- One payload, one message. -/
theorem pay_inj {m o : Msg} (hm : m.Fits) (ho : o.Fits) (h : payL m = payL o) : m = o := by
  have a := heads_pay m hm []
  have b := heads_pay o ho []
  rw [h] at a
  obtain ⟨e0, e1, e2, e3, e4⟩ := a.det b
  have x := fits_nat hm
  have y := fits_nat ho
  have hh : m.head = o.head := by
    simp only [Msg.head, Msg.mk.injEq]
    refine ⟨by omega, by omega, by omega, by omega, ?_⟩; simp
  have f1 := fill_body m hm []
  have f2 := fill_body o ho []
  rw [e0, hh, f2] at f1
  simpa using f1.symm
end Go.Abs

namespace Go.Abs
open Go Go.Proofs

theorem closeL_len (xs : List UInt8) : (closeL xs).length = xs.length + 8 := by simp [closeL, hdr4, tail4]
theorem closeL_mid (xs : List UInt8) : ((closeL xs).drop 4).take xs.length = xs := by simp [closeL, hdr4]
theorem closeL_inj {xs ys : List UInt8} (h : closeL xs = closeL ys) : xs = ys := by
  have hl : xs.length = ys.length := by have := congrArg List.length h; simp only [closeL_len] at this; omega
  have h1 := closeL_mid xs
  rw [h, hl, closeL_mid] at h1
  exact h1.symm
theorem apart {m o : Msg} (hm : m.Fits) (ho : o.Fits) : closeL (payL m) = closeL (payL o) ↔ m = o :=
  ⟨fun h => pay_inj hm ho (closeL_inj h), fun h => by rw [h]⟩
end Go.Abs

namespace Go.Abs
open Go Go.Proofs
set_option maxRecDepth 10000
set_option maxHeartbeats 4000000

theorem okFrame_close (xs : List UInt8) (h : xs.length ≤ 112) : okFrame (closeL xs) xs.length = true := by
  have e : (hdr4 xs.length).length = 4 := rfl
  have e1 : (closeL xs).take 4 = hdr4 xs.length := by simp [closeL, e]
  have e2 : (closeL xs).take (4 + xs.length) = hdr4 xs.length ++ xs := by
    rw [closeL, List.take_append_of_le_length (by simp [e]), List.take_of_length_le (by simp [e])]
  have e3 : (closeL xs).drop (4 + xs.length) = tail4 (crc (hdr4 xs.length ++ xs)) := by
    rw [closeL, List.drop_append_of_le_length (by simp [e]), List.drop_of_length_le (by simp [e])]; rfl
  simp only [okFrame, e1, e2, e3, decide_true, Bool.and_true, decide_eq_true_eq, Bool.true_and]
  exact h

theorem w11_ok (a : D) (xs p : List UInt8) (m : Msg) (ns : List Nat) (e : Int) (ha : Rd a (byE xs)) (h24 : ∀ h, wc 24 [a] h = some (.val (.tup [.osl true false 1 (byE p), .int .i64 0]), h))
    (h17 : ∀ b, Rd b (byE p) → ∀ h, wc 17 [b] h = some (.val (.tup [.agg (m.cs (lrD ns)), .int .i64 e]), h)) (h : List O) :
    wc 11 [a] h = some (.val (.tup [.agg (m.cs (lrD ns)), .int .i64 e]), h) := by
  have h17 := h17 (.e (.sl (byE p))) Rd.e
  have e0 : ((0 : Int) != 0) = false := by decide
  simp only [Msg.cs] at h17
  have hcv : ∀ i, wcv 11 i = [] := fun _ => rfl
  have hres : Try.f11.results.toList = [ResultVar.cell 2 27, ResultVar.tmp 3] := rfl
  rw [wc, call_fn rfl Try.func11 rfl]
  cases ns with
  | nil =>
    simp only [lrD] at h17
    simp only [enterT, List.length_cons, List.length_nil, Nat.reduceAdd, Nat.reduceSub, List.replicate, List.cons_append, List.nil_append, kx_seq, kx_skip, kx_ret, kx_cond_tmp, kCond_false, kSeq_nrm, ko_nil, ko_op, ko_func, kT_some, kR_val, kR_val0, kC_val, List.getElem?_cons_succ, List.getElem?_cons_zero, Option.bind_some, ne_eq, reduceCtorEq, not_false_eq_true, implies_true, Bool.false_eq_true, Option.map_some, List.set_cons_succ, List.set_cons_zero, List.getD_cons_succ, List.getD_cons_zero, own_e, own_agg, List.any_cons, List.any_nil, own0_e, own0_osl, Bool.or_false, ↓reduceIte, exO_assign, exO_binOp, exO_alloc, exO_store, exO_extract, tk_plain, sh_plain, tk_const, rd_tmp, rd_const, tks_nil, tks_cons, ofV_int, binD_neq, arith_neq, kF_ret, leave_eq, resD_nil, resD_tmp, resD_cell, tupD_two, fit_e, fit_osl, fit_tup, fit_agg, List.forall_mem_cons, List.not_mem_nil, false_imp_iff, and_self, List.append_nil, gc_app0, gc_hd, hset0, adOf_ptr, putAt_eq', cellsOf_agg, notTup_agg, notTup_osl, load1, store1, gc_more, List.take_succ_cons, List.take_zero, List.drop_succ_cons, List.drop_zero, List.map_cons, List.map_nil, Bool.or_self, Nat.zero_add, Nat.le_refl, sz27, ag27, kx_region (hcv _), Try.ntmps11, hres, ha.ownD, zo27, h24, e0, h17, Msg.cs, lrD, ownD_tup, ownA_e, ownA_nf, leftT_tup, left_e, exO_mv, taken, consumes, isTmp, beq_self_eq_true, Nat.reduceBEq, tk_tmp, tkV_own, sh_tmp, shV_osl, ownD_nf, leftT_ex, left_ex, shr_nf, kep_osl]
  | cons n ns =>
    simp only [lrD] at h17
    simp only [enterT, List.length_cons, List.length_nil, Nat.reduceAdd, Nat.reduceSub, List.replicate, List.cons_append, List.nil_append, kx_seq, kx_skip, kx_ret, kx_cond_tmp, kCond_false, kSeq_nrm, ko_nil, ko_op, ko_func, kT_some, kR_val, kR_val0, kC_val, List.getElem?_cons_succ, List.getElem?_cons_zero, Option.bind_some, ne_eq, reduceCtorEq, not_false_eq_true, implies_true, Bool.false_eq_true, Option.map_some, List.set_cons_succ, List.set_cons_zero, List.getD_cons_succ, List.getD_cons_zero, own_e, own_agg, List.any_cons, List.any_nil, own0_e, Bool.or_false, ↓reduceIte, exO_assign, exO_binOp, exO_alloc, exO_store, exO_extract, tk_plain, sh_plain, tk_const, rd_tmp, rd_const, tks_nil, tks_cons, ofV_int, binD_neq, arith_neq, kF_ret, leave_eq, resD_nil, resD_tmp, resD_cell, tupD_two, fit_e, fit_osl, fit_tup, fit_agg, List.forall_mem_cons, List.not_mem_nil, false_imp_iff, and_self, List.append_nil, gc_app0, gc_hd, hset0, adOf_ptr, putAt_eq', cellsOf_agg, notTup_agg, notTup_osl, load1, store1, gc_more, List.take_succ_cons, List.take_zero, List.drop_succ_cons, List.drop_zero, List.map_cons, List.map_nil, Bool.or_self, Bool.or_true, Nat.zero_add, Nat.le_refl, sz27, ag27, kx_region (hcv _), Try.ntmps11, hres, ha.ownD, zo27, h24, e0, h17, Msg.cs, lrD, ownD_tup, ownA_e, ownA_nf, leftT_tup, left_e, left_agg, left0_e, exO_mv, taken, consumes, isTmp, beq_self_eq_true, Nat.reduceBEq, tk_tmp, tkV_own, sh_tmp, shV_osl, ownD_nf, own0_nf, leftT_ex, left_ex, left0_nf, shr_nf, kep_osl]

def pingM : Msg := { kind := 2, call := 1048577, frm := 1, to := 2, key := 0, slow := false, done := false, place := 0, pred := 0, list := [], ikey := { data := #[] }, ival := 0, iver := 0, gone := false, code := 0 }
theorem w18 (h : List O) : wc 18 [] h = some (.val (.agg (pingM.cs (.osl false true 0 []))), h) := by
  have b27 := @build27 2 1048577 1 2
  have hcv : ∀ i, wcv 18 i = [] := fun _ => rfl
  have hres : Try.f18.results.toList = [ResultVar.cell 0 27] := rfl
  rw [wc, call_fn rfl Try.func18 rfl]
  simp only [enterT, List.length_cons, List.length_nil, Nat.reduceAdd, Nat.reduceSub, List.replicate, List.nil_append, kx_seq, kx_ret, kSeq_nrm, ko_nil, ko_op, kR_val, kR_val0, Option.bind_some, ne_eq, reduceCtorEq, not_false_eq_true, implies_true, Bool.false_eq_true, Option.map_some, List.set_cons_succ, List.set_cons_zero, List.getD_cons_succ, List.getD_cons_zero, own_agg, List.any_cons, List.any_nil, own0_e, own0_osl, ↓reduceIte, exO_alloc, exO_build, exO_store, tk_plain, tk_const, rd_tmp, tks_nil, tks_cons, ofV_int, kF_ret, leave_eq, resD_nil, resD_cell, tupD_one, fit_e, fit_osl, fit_agg, List.forall_mem_cons, List.not_mem_nil, false_imp_iff, and_self, List.append_nil, gc_app0, gc_hd, hset0, adOf_ptr, putAt_eq', cellsOf_agg, notTup_agg, load1, store1, gc_more, List.take_succ_cons, List.take_zero, List.drop_succ_cons, List.drop_zero, List.map_cons, List.map_nil, Bool.or_self, Nat.zero_add, Nat.le_refl, sz27, ag27, kx_region (hcv _), Try.ntmps18, hres, zo27, List.zip_cons_cons, List.zip_nil_right, b27, Msg.cs, pingM]
end Go.Abs

namespace Go.Abs
open Go Go.Proofs
set_option maxRecDepth 10000
set_option maxHeartbeats 4000000

def mvL (d : D) : Option D := if excD d then none else (match d with | .tup _ => some d | d => some (shr d))
theorem exL_moveG {P : Program} {dst : Option Tmp} {t : Tmp} {ty : TypeId} {pos : String} {af : Array Edge} {g : Option (Nat × Bool)} {tl : List D} {df : List (FuncId × List D)} {r : Rc} {h : List O} :
    exLight P ⟨dst, .move (.tmp t), ty, pos, af, g⟩ ⟨tl, df, r, h⟩ = mvL (tl.getD t undefD) := by
  rfl
theorem sealD_ff {sz : Nat} {es : List (List E)} : sealD (.osl false false sz es) = .osl false false sz es := rfl
theorem mvL_osl {sz : Nat} {es : List (List E)} : mvL (.osl false false sz es) = some (.e (.sl es)) := rfl
theorem exO_builtin {P : Program} {l : List Oper} {s : St} {dst : Option Tmp} {b : Builtin} {args : Array Operand} {ats : Array TypeId} {ty : TypeId} {pos : String} {af : Array Edge} {g : Option (Nat × Bool)} :
    exOp P l ⟨dst, .call { callee := .builtin b, args := args, argTypes := ats }, ty, pos, af, g⟩ s = exBuiltin P b ats args.toList s := rfl
theorem bs31_10 : buildSliceD Try.prog 31 10 [(0, .e (.int .u8 1)), (1, .e (.int .u8 2)), (2, .e (.int .u8 3)), (3, .e (.int .u8 16)), (4, .e (.int .u8 0)), (5, .e (.int .u8 1)), (6, .e (.int .u8 1)), (7, .e (.int .u8 1)), (8, .e (.int .u8 1)), (9, .e (.int .u8 2))] = some (.osl true true 1 (byE [1, 2, 3, 16, 0, 1, 1, 1, 1, 2])) := by
  simp [buildSliceD, el31, sz5, zeroCellsOf, zo5, replD, fillD, cellsOf, notTup, putAt, chunk, rowsE, toEs, toE, byE, byR]
theorem w11o_bad (xs : List UInt8) (e : Int) (he : (e != 0) = true) (h24 : ∀ h, wc 24 [.osl false true 1 (byE xs)] h = some (.val (.tup [.osl false true 0 [], .int .i64 e]), h)) (h : List O) :
    wc 11 [.osl true true 1 (byE xs)] h = some (.val (.tup [.agg (msg0.cs (.osl false true 0 [])), .int .i64 e]), h) := by
  have b27 := build27_nil
  simp only [Msg.cs, msg0] at b27
  have hcv : ∀ i, wcv 11 i = [] := fun _ => rfl
  have hres : Try.f11.results.toList = [ResultVar.cell 2 27, ResultVar.tmp 3] := rfl
  rw [wc, call_fn rfl Try.func11 rfl]
  simp only [enterT, List.length_cons, List.length_nil, Nat.reduceAdd, Nat.reduceSub, List.replicate, List.cons_append, List.nil_append, kx_seq, kx_ret, kx_cond_tmp, kCond_true, kSeq_nrm, kSeq_ret, ko_nil, ko_op, ko_func, kT_some, kR_val, kR_val0, kC_val, List.getElem?_cons_succ, List.getElem?_cons_zero, Option.bind_some, ne_eq, reduceCtorEq, not_false_eq_true, implies_true, Bool.false_eq_true, Option.map_some, List.set_cons_succ, List.set_cons_zero, List.getD_cons_succ, List.getD_cons_zero, own_e, own_osl, own_agg, List.any_cons, List.any_nil, own0_e, own0_osl, Bool.or_false, ↓reduceIte, exO_assign, exO_binOp, exO_alloc, exO_build, exO_store, exO_extract, tk_plain, sh_plain, tk_const, rd_tmp, rd_const, tks_nil, tks_cons, ofV_int, binD_neq, arith_neq, kF_ret, leave_eq, resD_nil, resD_tmp, resD_cell, tupD_two, fit_e, fit_osl, fit_tup, fit_agg, List.forall_mem_cons, List.not_mem_nil, false_imp_iff, and_self, List.append_nil, gc_app0, gc_hd, hset0, adOf_ptr, putAt_eq', cellsOf_agg, notTup_agg, load1, store1, gc_more, List.take_succ_cons, List.take_zero, List.drop_succ_cons, List.drop_zero, List.map_nil, Bool.or_self, Bool.or_true, Nat.zero_add, Nat.le_refl, sz27, ag27, kx_region (hcv _), Try.ntmps11, hres, zo27, h24, he, b27, List.zip_nil_right, Msg.cs, msg0, ownD_tup, ownA_e, ownA_osl0, exO_mv, taken, consumes, isTmp, beq_self_eq_true, Nat.reduceBEq, sh_tmp, shV_osl, ownD_ex, shr_fu, kep_osl]

theorem w15o (a : D) (xs ys : List UInt8) (ha : Rd a (byE xs)) (h : List O) : wc 15 [a, .osl true true 1 (byE ys)] h = some (.val (.bool (decide (xs = ys))), h) := by
  have hcv : ∀ i, wcv 15 i = [] := fun _ => rfl
  have hres : Try.f15.results.toList = [ResultVar.tmp 4] := rfl
  rw [wc, call_fn rfl Try.func15 rfl]
  simp only [enterT, List.length_cons, List.length_nil, Nat.reduceAdd, Nat.reduceSub, List.replicate, List.cons_append, List.nil_append, kx_seq, kx_ret, kSeq_nrm, ko_nil, ko_op, kR_val, ne_eq, reduceCtorEq, not_false_eq_true, implies_true, Bool.false_eq_true, Option.map_some, List.set_cons_succ, List.set_cons_zero, List.getD_cons_succ, List.getD_cons_zero, own_e, own_osl, List.any_cons, List.any_nil, ↓reduceIte, exO_assign, exO_binOp, exO_convert, tk_plain, sh_plain, tk_const, rd_tmp, ofV_bool, binS_eql, strD_eql, kF_ret, leave_eq, resD_nil, resD_tmp, tupD_one, gc_same, fit_e, Bool.or_self, Nat.zero_add, kx_region (hcv _), Try.ntmps15, hres, ha.ownD, conv_str ha.sl, conv_str (a := .osl false true 1 (byE ys)) slOf_osl, BA_inj, exO_mv, taken, consumes, isTmp, Nat.reduceBEq, sh_tmp, shV_osl, ownD_ex, shr_fu, kep_osl]

open Classical in
theorem w17o_none (xs l4 : List UInt8) (n0 n1 n2 n3 : Nat) (hx : xs.length ≤ 100000) (hh : Heads xs l4 n0 n1 n2 n3) (h13 : n0 < 13)
    (hk : n0 ≠ 4 ∧ n0 ≠ 5 ∧ n0 ≠ 6 ∧ n0 ≠ 7 ∧ n0 ≠ 10 ∧ n0 ≠ 11 ∧ n0 ≠ 12) (h : List O) :
    wc 17 [.osl true true 1 (byE xs)] h = some (.val (if l4 = [] ∧ (headM n0 n1 n2 n3).right = true then .tup [.agg ((headM n0 n1 n2 n3).cs (lrD [])), .int .i64 0] else .tup [.agg (msg0.cs (.osl false true 0 [])), .int .i64 12]), h) := by
  have h31 := clone31 (a := .osl false true 1 (byE xs)) Rd.osl (by omega)
  have b58 := build58 (d := .osl true false 1 (byE xs)) rfl rfl
  have h32 := w32 (h.length + 2)
  have hx4 : l4.length ≤ 100000 := by have := hh.len; omega
  have hcv : ∀ i, wcv 17 i = [] := fun _ => rfl
  have hres : Try.f17.results.toList = [ResultVar.cell 2 27, ResultVar.cell 3 25] := rfl
  rw [wc, call_fn rfl Try.func17 rfl]
  simp only [enterT, List.length_cons, List.length_nil, Nat.reduceAdd, Nat.reduceSub, List.replicate, List.cons_append, List.nil_append, kx_seq, kx_block, kSeq_nrm, ko_nil, ko_op, ko_func, kT_some, kR_val, kR_val0, kC_val, ne_eq, reduceCtorEq, not_false_eq_true, implies_true, Bool.false_eq_true, Option.map_some, List.set_cons_succ, List.set_cons_zero, List.getD_cons_succ, List.getD_cons_zero, own_osl, own_agg, own_ptr, List.any_cons, List.any_nil, Bool.or_false, ↓reduceIte, exO_assign, exO_alloc, exO_box, exO_build, exO_makeFunc, tk_plain, sh_plain, rd_tmp, tks_nil, tks_cons, shs_nil, shs_cons, List.append_nil, hlen, hpush, cellsOf_agg, cellsOf_e, notTup_agg, notTup_e, List.map_cons, List.map_nil, Bool.or_self, Nat.zero_add, kx_region (hcv _), Try.ntmps17, zo27, zo25, exO_defer, h31, b58, zo59, List.zip_cons_cons, List.zip_nil_right, h32, List.any_toArray, exO_mv, taken, consumes, isTmp, Nat.reduceBEq, tk_tmp, tkV_own, sh_tmp, shV_osl, ownD_ex, ownD_nf, own0_nf, leftT_ex, shr_fu, kep_osl]
  rw [kx_range rfl rfl rfl]
  simp only [List.length_cons, List.length_nil, Nat.reduceAdd, List.cons_append, List.nil_append, hlen, List.map_cons, List.map_nil, Nat.zero_add, List.append_assoc, shrT_undef, shrT_ptr, shrT_func, leftT_agg, left0_ex, shrT_hdr, shrT_agg, shr0_hdr]
  refine kRng_of (P := Try.prog) (pr := wpr) (cv := wcv) (w60 h _ _ _ xs l4 n0 n1 n2 n3 _ _ _ _ hx hh ?_) ?_
  · intro l hs i n hi hl4
    refine (call_round (hgetn.trans rfl) rfl).trans ?_
    simp only [kx_seq, kSeq_nrm, ko_nil, ko_op, kR_val, ne_eq, reduceCtorEq, not_false_eq_true, implies_true, Option.map_some, List.set_cons_succ, List.set_cons_zero, List.getD_cons_succ, List.getD_cons_zero, own_e, exO_assign, tk_plain, List.foldl_nil, kx_region (hcv _), List.zip_cons_cons, List.zip_nil_right, List.foldl_cons]
    rw [kBody_nrm (hgetn.trans rfl)]
    have hi1 : i + 1 ≤ hs.length := by omega
    simp only [List.length_cons, List.length_nil, kx_block, kBlk_nrm, ko_nil, ko_op, kR_val, kR_val0, Option.bind_some, ne_eq, reduceCtorEq, not_false_eq_true, implies_true, Option.map_some, List.set_cons_succ, List.set_cons_zero, List.getD_cons_succ, List.getD_cons_zero, own_e, own_ptr, ↓reduceIte, exO_move_tmp, exO_store, exO_indexAddr, tk_plain, sh_plain, rd_tmp, and_self, gc_appn, gc_hd, gc_tl, hsetn, adOf_ptr, putAt_eq', cellsOf_e, notTup_e, store1, Nat.zero_add, sz3, kx_region (hcv _), ix59 hi, hi1, put_set (show i < hs.length by omega)]
    rw [rout_nrm (hgetn.trans rfl)]
    simp only [List.set_cons_succ, List.set_cons_zero, hsetn]
  · rw [kRng_nrm' (n := h.length + 5) (by simp) (hgetn.trans rfl) (by simp)]
    simp only [kx_seq, kSeq_nrm, kBlk_nrm, ko_op, ne_eq, reduceCtorEq, not_false_eq_true, implies_true, List.set_cons_succ, List.set_cons_zero, exO_indexAddr, rd_const, ofV_int, hsetn, List.map_cons, List.map_nil, kx_region (hcv _)]
    rw [gc_tail (n := h.length + 5) (h := h) (l := [_, _, _, _, _]) rfl (.tup [] (by simp)) ?_]
    rotate_left
    · exact ⟨.inl rfl, .inl rfl, .inr (.cells _ (by simp [rdC_fit])), .inr (.cells _ (by simp [fit_e])), .inl rfl, trivial⟩
    simp only [List.length_cons, List.length_nil, Nat.reduceAdd, ko_op, ko_func, kT_some, kR_val, List.getElem?_cons_zero, Option.bind_some, Nat.reduceLeDiff, ne_eq, reduceCtorEq, not_false_eq_true, implies_true, Bool.false_eq_true, Option.map_some, List.set_cons_succ, List.set_cons_zero, List.getD_cons_succ, List.getD_cons_zero, own_e, own_ptr, own0_e, ↓reduceIte, exO_binOp, tk_plain, sh_plain, rd_tmp, rd_const, tks_nil, tks_cons, ofV_int, binD_lss, arith_lss, gc_appn, gc_hd, gc_tl, adOf_ptr, load1, List.take_succ_cons, List.take_zero, List.map_cons, List.map_nil, exO_load, Nat.zero_add, sz3, ag3, kep_undef, kep_ptr, kep_func, kep_hdr, kep_agg, kep0_hdr, ix59_0]
    have h33 := w33 true
    have e13 : decide ((n0 : Int) < 13) = true := by simp; omega
    have wk : IntKind.u8.wrap (n0 : Int) = (n0 : Int) := by rw [IntKind.wrap_u8]; omega
    have h34 := w34 h.length (h ++ [.cells ((headM n0 n1 n2 n3).cs (.osl false true 0 [])), .cells [.e (.int .i64 0)], .cells [rdC l4], .cells [.int .i64 (n0 : Int), .int .i64 (n1 : Int), .int .i64 (n2 : Int), .int .i64 (n3 : Int)], .cells [.ptr (h.length + 2) 0]])
    have b27 := @build27 n0 n1 n2 n3
    simp only [Msg.cs, headM, List.append_assoc, List.cons_append, List.nil_append, hlen, List.length_cons, List.length_nil, Nat.add_assoc, Nat.reduceAdd] at h34
    simp only [List.length_cons, List.length_nil, Nat.reduceAdd, List.nil_append, kx_seq, kSeq_nrm, ko_nil, ko_op, kR_val, kR_val0, kC_val, List.getElem?_cons_succ, List.getElem?_cons_zero, Option.bind_some, Nat.reduceLeDiff, ne_eq, reduceCtorEq, not_false_eq_true, implies_true, Bool.false_eq_true, Option.map_some, List.set_cons_succ, List.set_cons_zero, List.getD_cons_succ, List.getD_cons_zero, own_e, own_agg, own_ptr, List.any_cons, List.any_nil, own0_e, own0_osl, ↓reduceIte, exO_convert, exO_build, exO_store, exO_indexAddr, tk_plain, sh_plain, rd_tmp, rd_const, tks_nil, tks_cons, ofV_int, and_self, List.append_nil, gc_app0, gc_appn, gc_hd, gc_tl, hset0, adOf_ptr, putAt_eq', cellsOf_agg, notTup_agg, load1, store1, List.take_zero, List.drop_succ_cons, List.drop_zero, List.map_cons, List.map_nil, exO_load, Bool.or_self, Nat.zero_add, Nat.le_refl, Try.underlying5, sz3, sz27, ag3, kx_region (hcv _), e13, h33, ix59_0, ix59_1, ix59_2, ix59_3, convD_int Try.underlying3 Try.underlying5, wk, b27, List.zip_cons_cons, List.zip_nil_right]
    refine (kx_draw (l := plan17_10) (by exact plan17_10_eq)).trans ?_
    obtain ⟨k4, k5, k6, k7, k10, k11, k12⟩ := hk
    have f4 : ((n0 : Int) == 4) = false := by simp; omega
    have f5 : ((n0 : Int) == 5) = false := by simp; omega
    have f6 : ((n0 : Int) == 6) = false := by simp; omega
    have f7 : ((n0 : Int) == 7) = false := by simp; omega
    have f10 : ((n0 : Int) == 10) = false := by simp; omega
    have f11 : ((n0 : Int) == 11) = false := by simp; omega
    have f12 : ((n0 : Int) == 12) = false := by simp; omega
    simp only [List.length_cons, List.length_nil, Nat.reduceAdd, kx_seq, kSeq_nrm, ko_op, kR_val, St.put, List.getElem?_toArray, List.getElem?_cons_succ, List.getElem?_cons_zero, Option.bind_some, Nat.reduceLeDiff, ne_eq, reduceCtorEq, not_false_eq_true, implies_true, Bool.not_false, Bool.true_eq_false, Bool.false_eq_true, Option.map_some, List.set_cons_succ, List.set_cons_zero, List.getD_cons_succ, List.getD_cons_zero, own_e, own_undef, own_ptr, own_map, List.any_cons, List.any_nil, ↓reduceIte, exO_move_tmp, exO_assign, exO_binOp, exO_fieldAddr, tk_plain, rd_tmp, rd_const, tks_nil, tks_cons, ofV_nilfn, false_imp_iff, and_self, List.toList_toArray, kd_nil, kd_l, kdL_some, kdV_some, kd_r, kdRO_some, preSeal_nil, preSeal_other, exL_gen, exL_load, exLd_ob, outV_some, ownOp_tmp, lo_fieldAddr, lo_lookup, Op.operands, Call.operands, exc0_e, shr0_e, preCv, List.foldl_nil, gc_app0, gc_hd, hgetn, adOf_ptr, adD_ob, add_ob, fieldAddrD, Bool.or_self, Nat.add_zero, Nat.zero_add, Nat.succ_ne_zero, sz5, ag5, st27, kx_region (hcv _), hcv, kd_h, kdHO_some, kdT_some, kdK_func, kdK_op, kdC_val, kdE_val, calmAt_eq, again_nil, again_cons, same_nil, same_cons, kdR_cons, List.all_cons, List.all_nil, Bool.and_self, plan17_10, h34, exO_lookup, mp65, key5, mapGet_ob, readsM, find_no, find_nil, f4, f5, f6, f7, f10, f11, f12, zo64, show Nat.testBit 7 0 = true by decide, show Nat.testBit 7 1 = true by decide, show Nat.testBit 7 2 = true by decide, show Nat.testBit 15 0 = true by decide, show Nat.testBit 15 2 = true by decide, show Nat.testBit 15 3 = true by decide, show Nat.testBit 15 1 = true by decide]
    simp only [kx_skip, kx_cond_tmp, kCond_false, kSeq_nrm, ko_nil, kR_val, Option.map_some, List.set_cons_succ, List.set_cons_zero, List.getD_cons_succ, List.getD_cons_zero, binF_nil Try.underlying64, isConst_const, ↓stop13]
    exact w17_end _ (headM n0 n1 n2 n3) [] l4 h _ _ rfl rfl hx4 (by simp) rfl rfl rfl rfl

theorem ping_fits : pingM.Fits := by
  refine ⟨by decide, by decide, by decide, by decide, by decide, by decide, by decide, ?_, ?_⟩
  · simp [Msg.fine, pingM]
  · simp [Msg.off, Msg.head, pingM]
theorem ping_right : pingM.right = true := (right_fits (by decide) (by decide)).2 ping_fits
theorem zero_right : msg0.right = false := by simp [Msg.right, msg0]
theorem ping_pay : payL pingM = [1, 2, 3, 16, 0, 1, 1, 1, 1, 2] := by
  simp [payL, headL, bodyL, numsL, putL, pingM, digs_cons, digs_zero]
theorem ping_read (b : D) (hb : Rd b (byE (payL pingM))) (h : List O) : wc 17 [b] h = some (.val (.tup [.agg (pingM.cs (lrD [])), .int .i64 0]), h) := by
  have hh := heads_pay pingM ping_fits []
  simp only [List.append_nil] at hh
  have e : bodyL pingM = [] := by simp [bodyL, pingM]
  rw [e] at hh
  have := w17_none b (payL pingM) [] 2 1048577 1 2 hb (by rw [ping_pay]; decide) hh (by decide) (by decide) h
  have e2 : headM 2 1048577 1 2 = pingM := rfl
  rw [e2, if_pos ⟨rfl, ping_right⟩] at this
  exact this
theorem zero_read (h : List O) : wc 17 [.osl true true 1 (byE [0, 0, 0, 0])] h = some (.val (.tup [.agg (msg0.cs (.osl false true 0 [])), .int .i64 12]), h) := by
  have hh : Heads [0, 0, 0, 0] [] 0 0 0 0 := ⟨[0, 0, 0], [0, 0], [0], rfl, rfl, rfl, rfl⟩
  have := w17o_none [0, 0, 0, 0] [] 0 0 0 0 (by decide) hh (by decide) (by decide) h
  have e2 : headM 0 0 0 0 = msg0 := rfl
  rw [e2, if_neg (by rw [zero_right]; simp)] at this
  exact this
theorem ping_take (b : D) (hb : Rd b (byE (closeL (payL pingM)))) (h : List O) : wc 11 [b] h = some (.val (.tup [.agg (pingM.cs (lrD [])), .int .i64 0]), h) := by
  refine w11_ok b _ (payL pingM) pingM [] 0 hb (fun h => ?_) (fun b hb h => ping_read b hb h) h
  have := w24 b (closeL (payL pingM)) hb (payL pingM).length (closeL_len _) (by rw [closeL_len, ping_pay]; decide) h
  have e : ((closeL (payL pingM)).take (4 + (payL pingM).length)).drop 4 = payL pingM := by
    rw [List.drop_take, show 4 + (payL pingM).length - 4 = (payL pingM).length by omega, closeL_mid]
  rw [okFrame_close _ (by rw [ping_pay]; decide), if_pos rfl, e] at this
  exact this
theorem short_take (h : List O) : wc 11 [.osl true true 1 (byE [71, 1, 0, 0])] h = some (.val (.tup [.agg (msg0.cs (.osl false true 0 [])), .int .i64 11]), h) :=
  w11o_bad _ 11 (by decide) (fun h => w24_short _ _ Rd.osl (by decide) h) h

theorem w8 (h : List O) : wc 8 [] h = some (.val (.bool true), h) := by
  have h18 := w18
  have h12 := w12 pingM (.osl false true 0 []) Rd.osl (by decide) ping_right ping_fits
  have h9 := w9 pingM (.osl false true 0 []) Rd.osl (by decide) ping_right ping_fits
  have h9z := w9_bad msg0 (.osl false true 0 []) Rd.osl (by decide) zero_right
  have h17 := ping_read (.e (.sl (byE (payL pingM)))) Rd.e
  have h17z := zero_read
  have h11 := ping_take (.e (.sl (byE (closeL (payL pingM))))) Rd.e
  have h11s := short_take
  have h13 := w13 pingM pingM (.osl false true 0 []) (.osl false true 0 []) Rd.osl Rd.osl (by decide)
  have e13 : (decide (pingM.list = pingM.list) && sameCs pingM pingM) = true := by rw [same_iff]
  have h14 := w14
  have b27 := build27_nil
  have hpy := ping_pay
  have hcl : (closeL (payL pingM)).length = 18 := by rw [closeL_len, ping_pay]; rfl
  generalize payL pingM = py at h12 h9 h17 h11 hpy hcl
  generalize closeL py = cl at h9 h11 hcl
  have h15 := w15o (.e (.sl (byE py))) py [1, 2, 3, 16, 0, 1, 1, 1, 1, 2] Rd.e
  rw [e13] at h13
  have z4 : byE [0, 0, 0, 0] = [[.int .u8 0], [.int .u8 0], [.int .u8 0], [.int .u8 0]] := rfl
  have s4 : byE [71, 1, 0, 0] = [[.int .u8 71], [.int .u8 1], [.int .u8 0], [.int .u8 0]] := rfl
  rw [z4] at h17z
  rw [s4] at h11s
  simp only [Msg.cs, msg0, pingM, lrD] at h18 h12 h9 h9z h17 h17z h11 h11s h13 b27
  have hcv : ∀ i, wcv 8 i = [] := fun _ => rfl
  have hres : Try.f8.results.toList = [ResultVar.tmp 0] := rfl
  rw [wc, call_fn rfl Try.func8 rfl]
  simp only [enterT, List.length_cons, List.length_nil, Nat.reduceAdd, Nat.reduceSub, List.replicate, List.cons_append, List.nil_append, kx_seq, kSeq_nrm, ko_nil, ko_op, ko_func, kT_some, kR_val, kR_val0, kC_val, List.getElem?_cons_succ, List.getElem?_cons_zero, Option.bind_some, ne_eq, reduceCtorEq, not_false_eq_true, implies_true, Bool.false_eq_true, Option.map_some, List.set_cons_succ, List.set_cons_zero, List.getD_cons_succ, List.getD_cons_zero, own_e, own_osl, own_agg, List.any_cons, List.any_nil, own0_e, own0_osl, Bool.or_false, ↓reduceIte, exO_assign, exO_alloc, exO_build, exO_buildSlice, exO_store, exO_extract, tk_plain, tk_const, sh_const, rd_tmp, tks_nil, tks_cons, shs_nil, shs_cons, ofV_int, ofV_bool, and_self, List.append_nil, gc_app0, gc_appn, gc_hd, gc_tl, hset0, hsetn, hlen, hpush, adOf_ptr, putAt_eq', cellsOf_agg, notTup_agg, notTup_osl, store1, List.take_zero, List.drop_succ_cons, List.drop_zero, List.map_cons, List.map_nil, Bool.or_self, Nat.zero_add, Nat.le_refl, sz27, kx_region (hcv _), Try.ntmps8, h18, h12, h17, h9, h11, zo27, b27, List.zip_nil_right, List.zip_cons_cons, h9z, bs31_4, h11s, h17z, ownD_tup, ownA_e, ownA_osl0, ownA_nf, ownA_agg, leftT_tup, left_e, exO_mv, taken, consumes, isTmp, beq_self_eq_true, Nat.reduceBEq, tk_tmp, tkV_own, sh_tmp, shV_osl, ownD_ex, ownD_nf, leftT_ex, leftT_nf, left_ex, left_nf, shr_nf, kep_osl]

  refine (kx_draw (l := plan8_8) (by exact plan8_8_eq)).trans ?_
  have l1 : ∀ H, len0 Try.prog 31 (.e (.sl (byE cl))) H = some 18 := fun H => by rw [len31e, ← hcl]; simp [byE]
  have e1 : decide (py = [1, 2, 3, 16, 0, 1, 1, 1, 1, 2]) = true := by simp [hpy]
  rw [e1] at h15
  have e18 : (((18 : Nat) : Int) == 18) = true := by decide
  have e0 : ((0 : Int) == 0) = true := by decide
  have e2 : ((2 : Int) == 2) = true := by decide
  have e11 : ((11 : Int) == 11) = true := by decide
  have e12 : ((12 : Int) == 12) = true := by decide
  have e46 : ((46 : Int) == 46) = true := by decide
  simp only [List.length_cons, List.length_nil, Nat.reduceAdd, List.nil_append, kx_ret, kSeq_nrm, St.put, List.getElem?_toArray, List.getElem?_cons_succ, List.getElem?_cons_zero, Option.bind_some, Nat.reduceLT, ne_eq, reduceCtorEq, not_false_eq_true, implies_true, Bool.not_false, Bool.false_eq_true, Option.map_some, List.set_cons_succ, List.set_cons_zero, List.getD_cons_succ, List.getD_cons_zero, own_e, own_agg, own_ptr, List.any_cons, List.any_nil, own0_e, own0_osl, ↓reduceIte, exO_assign, exO_binOp, exO_pick, exO_buildSlice, tk_plain, sh_plain, sh_const, rd_tmp, rd_const, tks_nil, tks_cons, shs_nil, shs_cons, ofV_int, binD_eql, Int.reduceLT, arith_eql, exB_len, kF_ret, leave_eq, resD_nil, resD_tmp, tupD_one, fit_e, and_self, List.toList_toArray, Option.some.injEq, Prod.mk.injEq, kd_nil, kd_l, kdL_some, kdV_some, kd_r, sealD_plain, preSeal_nil, preSeal_move, preSeal_other, exL_move, exL_gen, exL_load, exLd_ob, outV_some, ownOp_tmp, ownOp_const, lo_pick, lo_buildSlice, lo_binOp, lo_len, Op.operands, Call.operands, exc0_e, exc0_osl, shr0_e, shr0_osl, preCv, List.foldl_nil, Array.toList_append, gc_app0, gc_appn, gc_hd, gc_tl, adOf_ptr, gc_more, List.take_succ_cons, List.take_zero, List.drop_zero, List.map_cons, List.map_nil, Option.bind_eq_bind, Bool.or_self, Nat.zero_add, Option.pure_def, Nat.le_refl, sz27, ag27, hcv, hres, kd_h, kdHO_some, kdL_g, kdLG_yes, kdRO_g, kdRG_yes, kdHO_g, kdHG_yes, kdT_some, kdK_func, kdK_op, kdC_val, kdE_val, calmAt_eq, again_nil, again_cons, same_nil, same_cons, kdR_cons, List.all_cons, List.all_nil, Bool.and_self, plan8_8, beq_self_eq_true, tk_tmp, tkV_own, ownD_ex, leftT_ex, exL_moveG, mvL_osl, sealD_ff, exO_builtin, e18, List.zip_nil_right, List.zip_cons_cons, bs31_10, h15, h18, h13, h14, l1]
  trace_state
end Go.Abs

namespace Go.Abs
open Go Go.Proofs
set_option maxRecDepth 10000
set_option maxHeartbeats 4000000

theorem w6 (m o : Msg) (a b : D) (ha : Rd a (isE m.list)) (hb : Rd b (isE o.list))
    (hcm : -9223372036854775808 ≤ m.call ∧ m.call ≤ 9223372036854775807) (hco : -9223372036854775808 ≤ o.call ∧ o.call ≤ 9223372036854775807) (h : List O) :
    wc 6 [.agg (m.cs a), .agg (o.cs b)] h = some (.val (.bool true), h) := by
  have h7m := w7 m a ha
  have h7o := w7 o b hb
  have h8 := w8
  simp only [Msg.cs] at h7m h7o
  generalize hgm : (decide ((40 : Int) < m.list.length) || decide ((300 : Int) < m.ikey.size)) = gm at h7m
  generalize hgo : (decide ((40 : Int) < o.list.length) || decide ((300 : Int) < o.ikey.size)) = go at h7o
  have hcv : ∀ i, wcv 6 i = [] := fun _ => rfl
  have hres : Try.f6.results.toList = [ResultVar.tmp 4] := rfl
  rw [wc, call_fn rfl Try.func6 rfl]
  cases gm with
  | true => simp only [enterT, List.length_cons, List.length_nil, Nat.reduceAdd, Nat.reduceSub, List.replicate, List.cons_append, List.nil_append, kx_seq, kx_ret, kx_cond_tmp, kCond_true, kSeq_nrm, kSeq_ret, ko_nil, ko_op, ko_func, kT_some, ko_guard, kR_val, kC_val, kG_no, St.put, List.getElem?_toArray, List.getElem?_cons_succ, List.getElem?_cons_zero, Option.bind_some, Nat.reduceLT, ne_eq, reduceCtorEq, not_false_eq_true, implies_true, Bool.not_false, Bool.false_eq_true, Option.map_some, List.set_cons_succ, List.set_cons_zero, List.getD_cons_succ, List.getD_cons_zero, own_e, own_agg, List.any_cons, List.any_nil, own0_e, ↓reduceIte, exO_move_tmp, exO_assign, exO_pick, exO_box, tk_plain, tk_const, sh_const, rd_tmp, tks_nil, tks_cons, ofV_bool, Int.reduceLT, kF_ret, leave_eq, resD_nil, resD_tmp, tupD_one, fit_e, Option.some.injEq, Prod.mk.injEq, gc_app0, gc_hd, hlen, hpush, adOf_ptr, cellsOf_agg, notTup_agg, load1, gc_more, List.take_succ_cons, List.take_zero, List.drop_zero, exO_load, Bool.or_self, Nat.zero_add, Nat.le_refl, sz27, ag27, kx_region (hcv _), Try.ntmps6, hres, Msg.cs, ha.own, hb.own, h7m, h8]
  | false =>
  cases go with
  | true => simp only [enterT, List.length_cons, List.length_nil, Nat.reduceAdd, Nat.reduceSub, List.replicate, List.cons_append, List.nil_append, kx_seq, kx_ret, kx_cond_tmp, kCond_true, kSeq_nrm, kSeq_ret, ko_nil, ko_op, ko_func, kT_some, ko_guard, kR_val, kC_val, kG_yes, kG_no, St.put, List.getElem?_toArray, List.getElem?_cons_succ, List.getElem?_cons_zero, Option.bind_some, Nat.reduceLT, ne_eq, reduceCtorEq, not_false_eq_true, implies_true, Bool.not_false, Bool.false_eq_true, Option.map_some, List.set_cons_succ, List.set_cons_zero, List.getD_cons_succ, List.getD_cons_zero, own_e, own_agg, List.any_cons, List.any_nil, own0_e, ↓reduceIte, exO_move_tmp, exO_assign, exO_pick, exO_box, tk_plain, sh_plain, tk_const, sh_const, rd_tmp, tks_nil, tks_cons, ofV_bool, Int.reduceLT, kF_ret, leave_eq, resD_nil, resD_tmp, tupD_one, fit_e, Option.some.injEq, Prod.mk.injEq, gc_app0, gc_appn, gc_hd, gc_tl, hlen, hpush, adOf_ptr, cellsOf_agg, notTup_agg, load1, gc_more, List.take_succ_cons, List.take_zero, List.drop_zero, exO_load, Bool.or_self, Nat.zero_add, Nat.le_refl, sz27, ag27, kx_region (hcv _), Try.ntmps6, hres, Msg.cs, ha.own, hb.own, h7m, h7o, h8]
  | false =>
  have hxm : m.list.length ≤ 1099511627776 := by simp at hgm; omega
  have hxo : o.list.length ≤ 1099511627776 := by simp at hgo; omega
  have h10m := w10 m a ha hxm
  have h10o := w10 o b hb hxo
  have rm : m.right6 = m.right := by rw [Bool.eq_iff_iff, right6_fits, right_fits hcm.1 hcm.2]
  have ro : o.right6 = o.right := by rw [Bool.eq_iff_iff, right6_fits, right_fits hco.1 hco.2]
  rw [rm] at h10m
  rw [ro] at h10o
  simp only [Msg.cs] at h10m h10o
  cases hrm : m.right with
  | false => 
    rw [hrm] at h10m
    simp only [enterT, List.length_cons, List.length_nil, Nat.reduceAdd, Nat.reduceSub, List.replicate, List.cons_append, List.nil_append, kx_seq, kx_ret, kx_cond_tmp, kCond_true, kSeq_nrm, kSeq_ret, ko_nil, ko_op, ko_func, kT_some, ko_guard, kR_val, kC_val, kG_yes, kG_no, St.put, List.getElem?_toArray, List.getElem?_cons_succ, List.getElem?_cons_zero, Option.bind_some, Nat.reduceLT, ne_eq, reduceCtorEq, not_false_eq_true, implies_true, Bool.not_false, Bool.false_eq_true, Option.map_some, List.set_cons_succ, List.set_cons_zero, List.getD_cons_succ, List.getD_cons_zero, own_e, own_agg, List.any_cons, List.any_nil, own0_e, ↓reduceIte, exO_move_tmp, exO_assign, exO_unOp, exO_pick, exO_box, tk_plain, sh_plain, tk_const, sh_const, rd_tmp, tks_nil, tks_cons, ofV_bool, Int.reduceLT, unD_not, kF_ret, leave_eq, resD_nil, resD_tmp, tupD_one, fit_e, Option.some.injEq, Prod.mk.injEq, gc_app0, gc_appn, gc_hd, gc_tl, hlen, hpush, adOf_ptr, cellsOf_agg, notTup_agg, load1, gc_more, List.take_succ_cons, List.take_zero, List.drop_zero, exO_load, Bool.or_self, Nat.zero_add, Nat.le_refl, sz27, ag27, kx_region (hcv _), Try.ntmps6, hres, Msg.cs, ha.own, hb.own, h7m, h7o, h10m, h8]
  | true =>
  cases hro : o.right with
  | false =>
    rw [hrm] at h10m
    rw [hro] at h10o
    simp only [enterT, List.length_cons, List.length_nil, Nat.reduceAdd, Nat.reduceSub, List.replicate, List.cons_append, List.nil_append, kx_seq, kx_ret, kx_cond_tmp, kCond_true, kSeq_nrm, kSeq_ret, ko_nil, ko_op, ko_func, kT_some, ko_guard, kR_val, kC_val, kG_yes, List.getElem?_toArray, List.getElem?_cons_succ, List.getElem?_cons_zero, Option.bind_some, Nat.reduceLT, ne_eq, reduceCtorEq, not_false_eq_true, implies_true, Bool.not_true, Bool.not_false, Bool.false_eq_true, Option.map_some, List.set_cons_succ, List.set_cons_zero, List.getD_cons_succ, List.getD_cons_zero, own_e, own_agg, List.any_cons, List.any_nil, own0_e, ↓reduceIte, exO_move_tmp, exO_assign, exO_unOp, exO_pick, exO_box, tk_plain, sh_plain, tk_const, rd_tmp, tks_nil, tks_cons, ofV_bool, Int.reduceLT, unD_not, kF_ret, leave_eq, resD_nil, resD_tmp, tupD_one, fit_e, Option.some.injEq, Prod.mk.injEq, gc_app0, gc_appn, gc_hd, gc_tl, hlen, hpush, adOf_ptr, cellsOf_agg, notTup_agg, load1, gc_more, List.take_succ_cons, List.take_zero, List.drop_zero, exO_load, Bool.or_self, Nat.zero_add, Nat.le_refl, sz27, ag27, kx_region (hcv _), Try.ntmps6, hres, Msg.cs, ha.own, hb.own, h7m, h7o, h10m, h10o, h8]
  | true =>
  rw [hrm] at h10m
  rw [hro] at h10o
  have hfm := (right_fits hcm.1 hcm.2).1 hrm
  have hfo := (right_fits hco.1 hco.2).1 hro
  have h9m := w9 m a ha hxm hrm hfm
  have h9o := w9 o b hb hxo hro hfo
  have hap := apart hfm hfo
  generalize closeL (payL m) = pm at h9m hap
  generalize closeL (payL o) = po at h9o hap
  have h15 := w15 (.e (.sl (byE pm))) (.e (.sl (byE po))) pm po Rd.e Rd.e
  have h13 := w13 m o a b ha hb hxm
  have es : (decide (m.list = o.list) && sameCs m o) = decide (pm = po) := by
    rw [Bool.eq_iff_iff, same_iff, decide_eq_true_iff, hap]
  rw [es] at h13
  generalize decide (pm = po) = q at h13 h15
  simp only [Msg.cs] at h9m h9o h13
  simp only [enterT, List.length_cons, List.length_nil, Nat.reduceAdd, Nat.reduceSub, List.replicate, List.cons_append, List.nil_append, kx_seq, kx_skip, kx_cond_tmp, kCond_false, kSeq_nrm, ko_nil, ko_op, ko_func, kT_some, ko_guard, kR_val, kC_val, kG_yes, List.getElem?_toArray, List.getElem?_cons_succ, List.getElem?_cons_zero, Option.bind_some, Nat.reduceLT, ne_eq, reduceCtorEq, not_false_eq_true, implies_true, Bool.not_true, Bool.false_eq_true, Option.map_some, List.set_cons_succ, List.set_cons_zero, List.getD_cons_succ, List.getD_cons_zero, own_e, own_agg, List.any_cons, List.any_nil, own0_e, Bool.or_false, ↓reduceIte, exO_assign, exO_unOp, exO_pick, exO_box, exO_extract, tk_plain, sh_plain, tk_const, rd_tmp, tks_nil, tks_cons, ofV_bool, Int.reduceLT, unD_not, Option.some.injEq, Prod.mk.injEq, gc_app0, gc_appn, gc_hd, gc_tl, hlen, hpush, adOf_ptr, cellsOf_agg, notTup_agg, notTup_osl, load1, List.take_succ_cons, List.take_zero, List.drop_zero, List.map_cons, List.map_nil, exO_load, Bool.or_self, Nat.zero_add, Nat.le_refl, sz27, ag27, kx_region (hcv _), Try.ntmps6, Msg.cs, ha.own, hb.own, h7m, h7o, h10m, h10o, h9m, h9o, ownD_tup, ownA_e, ownA_nf, leftT_tup, left_e, back, exO_mv, taken, consumes, isTmp, beq_self_eq_true, Nat.reduceBEq, tk_tmp, tkV_own, ownD_nf, leftT_nf, left_nf]
  refine (kx_draw (l := plan6_5) (by exact plan6_5_eq)).trans ?_
  have e0 : ((0 : Int) == 0) = true := by decide
  have eq1 : (q == q) = true := by cases q <;> rfl
  simp only [List.length_cons, List.length_nil, Nat.reduceAdd, kx_ret, kSeq_nrm, St.put, List.getElem?_toArray, List.getElem?_cons_succ, List.getElem?_cons_zero, Option.bind_some, Nat.reduceLT, ne_eq, reduceCtorEq, not_false_eq_true, implies_true, Bool.not_false, Bool.false_eq_true, Option.map_some, List.set_cons_succ, List.set_cons_zero, List.getD_cons_succ, List.getD_cons_zero, own_e, own_agg, own_ptr, List.any_cons, List.any_nil, own0_e, ↓reduceIte, exO_assign, exO_binOp, exO_pick, tk_plain, sh_plain, rd_tmp, rd_const, tks_nil, tks_cons, ofV_int, binD_eql, binB_eql, Int.reduceLT, arith_eql, kF_ret, leave_eq, resD_nil, resD_tmp, tupD_one, fit_e, and_self, List.toList_toArray, Option.some.injEq, Prod.mk.injEq, kd_nil, kd_l, kdL_some, kdV_some, kd_r, sealD_plain, preSeal_nil, preSeal_move, preSeal_other, exL_move, exL_gen, exL_load, exLd_ob, outV_some, ownOp_tmp, ownOp_const, lo_pick, lo_binOp, Op.operands, Call.operands, exc0_e, shr0_e, preCv, List.foldl_nil, gc_app0, gc_appn, gc_hd, gc_tl, adOf_ptr, gc_more, List.take_succ_cons, List.take_zero, List.drop_zero, List.map_cons, List.map_nil, Bool.or_self, Nat.zero_add, Nat.le_refl, Try.underlying4, sz27, ag27, hcv, hres, kd_h, kdHO_some, kdL_g, kdLG_yes, kdRO_g, kdRG_yes, kdHO_g, kdHG_yes, kdT_some, kdK_func, kdK_op, kdC_val, kdE_val, calmAt_eq, again_nil, again_cons, same_nil, same_cons, kdR_cons, List.all_cons, List.all_nil, Bool.and_self, plan6_5, beq_self_eq_true, ha.exc, ha.shr, hb.exc, hb.shr, exL_moveG, mvL_osl, sealD_ff, ha.own, hb.own, h15, h13, h8]
end Go.Abs

namespace Go.Abs

section
variable {P : Program} {w : World} {G : Gh} {tm : List Value} {df : List Deferred} {pv : List Value} {pd : List D} {s : St}

theorem RelSt.cnt_ge (h : RelSt w G tm df pv pd s) {b : Nat} (hb : w.heap.size ≤ b) : cntS w G tm pv pd s b = 0 := by
  by_cases h0 : 0 < cntS w G tm pv pd s b
  · have := (h.cnt_lt h0).1; omega
  · omega

/-- A new slice in a new block. -/
theorem RelSt.fresh2 (h : RelSt w G tm df pv pd s) {w' : World} {g : Nat} {arr : Array Value} {elem : TypeId} {fz : Nat × Nat} {n cap sz : Nat} {es : List (List E)}
    (hg : w.heap.size ≤ g) (hz : w.heap.size ≤ w'.heap.size) (hb : ∀ b, b < w.heap.size → w'.heap[b]? = w.heap[b]?) (hn : w'.heap[g]? = some (.cells arr elem fz))
    (hf : ∀ j, j < arr.size → w'.frozen? ⟨g, j, none⟩ = false) (h1 : n = es.length) (hc : n ≤ cap) (h0 : 0 < sz) (hsz : ∀ r ∈ es, r.length = sz)
    (hsize : cap * sz ≤ arr.size) (hh : Holds w G.S arr.toList sz es) (hwo : w'.os = w.os ∧ w'.output = w.output) :
    RelSt w' G tm df (.slice (some ⟨g, 0, none⟩) n cap :: pv) (.osl true false sz es :: pd) s ∧
      Ext w G (cntS w G tm pv pd s) w' G (cntS w' G tm (.slice (some ⟨g, 0, none⟩) n cap :: pv) (.osl true false sz es :: pd) s) := by
  obtain ⟨k1, k2⟩ := h.world hb hz hwo
  have htok : ∀ b, b ≠ g → tokT b (.slice (some ⟨g, 0, none⟩) n cap) (.osl true false sz es) = 0 := by
    intro b hne
    rw [tokT_flat rfl]
    exact if_neg (fun x => hne x.1.symm)
  have htok1 : ∀ b, tokT b (.slice (some ⟨g, 0, none⟩) n cap) (.osl true false sz es) ≤ 1 := by
    intro b
    rw [tokT_flat rfl]; unfold tok; simp only
    split <;> omega
  have hfr' : cntS w' G tm pv pd s g = 0 := by
    have hfr := h.cnt_ge hg
    simp only [cntS] at hfr ⊢
    rw [hsum_congr (w := w) (w' := w') _ _ (fun i bi o h1 h2 => objTok_same (hb bi (h.ob_lt (List.mem_of_getElem? h1))))]
    exact hfr
  have hS : ∀ j, ¬ G.S g j := fun j hs => by have := h.S_lt hs; omega
  have hob : g ∉ G.ob := fun hb => by have := h.ob_lt hb; omega
  have hleaf : OwnOK w' G.S ⟨g, 0, none⟩ sz n cap true es := by
    refine ⟨⟨rfl, rfl⟩, arr, elem, fz, hn, by simpa using hsize, hf, fun j _ => hS j, fun _ => ⟨fun j _ => hS j, fun i r j x hi hj => ?_⟩⟩
    obtain ⟨v, q1, q2⟩ := hh i r j x hi hj
    exact ⟨v, by simpa using q1, q2.mono (fun _ _ h => h) (fun b j hs => by simp only [World.cell?, hb b (h.S_lt hs)])⟩
  refine ⟨{ L := k1.L, P := k1.P.cons (.osl _ _ _ _ _ _ _ _ h1 hc (fun hx => by simp at hx) (.inl h0) hsz (fun hx => by simp at hx)) ?_, len := h.len, nd := h.nd, obS := k1.obS, H := k1.H, S := k1.S, one := ?_, noob := ?_, dfr := k1.dfr }, ⟨k2.later, k2.size, k2.obnew, k2.Ssame, k2.same, fun b hb' => ?_, k2.wo⟩⟩
  · rw [leafT_notTup rfl, leafA_flat rfl]
    exact fun _ => hleaf
  · intro b
    have a1 := k1.one b
    by_cases e : b = g
    · subst e
      have a2 := htok1 b
      simp only [cntS] at hfr'; simp only [sumZ]; omega
    · have a2 := htok b e
      simp only [sumZ]; omega
  · intro b hbo
    have a1 := k1.noob b hbo
    have a2 := htok b (fun e => hob (e ▸ hbo))
    simp only [sumZ]; omega
  · have a1 := k2.cnt b hb'
    have a2 := htok b (by omega)
    simp only [cntS, sumZ] at *; omega

/-- What is pending is let go; the rest is as it was. -/
theorem RelSt.letgo (h : RelSt w G tm df pv pd s) : RelSt w G tm df [] [] s ∧ Ext w G (cntS w G tm pv pd s) w G (cntS w G tm [] [] s) := by
  refine ⟨{ L := h.L, P := .nil w G, len := h.len, nd := h.nd, obS := h.obS, H := h.H, S := h.S, one := fun b => ?_, noob := fun b hb => ?_, dfr := h.dfr }, ?_⟩
  · have := h.one b; simp only [sumZ] at *; omega
  · have := h.noob b hb; simp only [sumZ] at *; omega
  · refine (Ext.refl w G (cntS w G tm pv pd s)).weaken (fun b => Nat.le_refl _) (fun b _ => ?_)
    simp only [cntS, sumZ]; omega

/-- A nil slice, as one's own. -/
theorem RelSt.nilOwn (h : RelSt w G tm df [] [] s) (sz : Nat) : RelSt w G tm df [.slice none 0 0] [.osl true false sz []] s ∧ ∀ b, cntS w G tm [.slice none 0 0] [.osl true false sz []] s b = cntS w G tm [] [] s b := by
  have hz : ∀ b, tokT b (.slice none 0 0) (.osl true false sz []) = 0 := fun b => by rw [tokT_flat rfl]; rfl
  refine ⟨{ L := h.L, P := (RelL.nil w G).cons (.oslN _ _ _) ?_, len := h.len, nd := h.nd, obS := h.obS, H := h.H, S := h.S, one := fun b => ?_, noob := fun b hb => ?_, dfr := h.dfr }, fun b => ?_⟩
  · rw [leafT_notTup rfl, leafA_flat rfl]
    trivial
  · have := h.one b; simp only [sumZ, hz] at *; omega
  · have := h.noob b hb; simp only [sumZ, hz] at *; omega
  · simp only [cntS, sumZ, hz]

/-- An empty slice without room, as one's own. -/
theorem RelSt.emptyOwn (h : RelSt w G tm df [] [] s) (sz b o : Nat) (h0 : 0 < sz) : RelSt w G tm df [.slice (some ⟨b, o, none⟩) 0 0] [.osl true false sz []] s ∧ ∀ b', cntS w G tm [.slice (some ⟨b, o, none⟩) 0 0] [.osl true false sz []] s b' = cntS w G tm [] [] s b' := by
  have hz : ∀ b', tokT b' (.slice (some ⟨b, o, none⟩) 0 0) (.osl true false sz []) = 0 := fun b' => by rw [tokT_flat rfl]; unfold tok; simp
  refine ⟨{ L := h.L, P := (RelL.nil w G).cons (.osl _ _ _ _ _ _ _ _ rfl (Nat.le_refl _) (fun hx => by simp at hx) (.inl h0) (by simp) (fun hx => by simp at hx)) ?_, len := h.len, nd := h.nd, obS := h.obS, H := h.H, S := h.S, one := fun b => ?_, noob := fun b hb => ?_, dfr := h.dfr }, fun b => ?_⟩
  · rw [leafT_notTup rfl, leafA_flat rfl]
    intro hx
    rcases hx with hx | hx
    · exact absurd rfl hx.2
    · omega
  · have := h.one b; simp only [sumZ, hz] at *; omega
  · have := h.noob b hb; simp only [sumZ, hz] at *; omega
  · simp only [cntS, sumZ, hz]

/-- What a call that hands back a fresh slice owes. -/
theorem mc_fresh {f : FuncId} {args : List D} {h : List O} {sz : Nat} {es : List (List E)} (hc : Callable P f) (h0 : 0 < sz) (hsz : ∀ r ∈ es, r.length = sz)
    (H : ∀ (w : World) (G : Gh) (vs : List Value), RelSt w G [] [] vs args (hSt h) → Calls P f vs.toArray w fun e w' => w'.os = w.os ∧ w'.output = w.output ∧ w.heap.size ≤ w'.heap.size ∧ (∀ b, b < w.heap.size → w'.heap[b]? = w.heap[b]?) ∧
      ((es = [] ∧ e = .returned (.slice none 0 0)) ∨ (∃ b o, es = [] ∧ e = .returned (.slice (some ⟨b, o, none⟩) 0 0)) ∨ ∃ g arr elem fz cap, e = .returned (.slice (some ⟨g, 0, none⟩) es.length cap) ∧ w.heap.size ≤ g ∧ w'.heap[g]? = some (.cells arr elem fz) ∧ (∀ j, j < arr.size → w'.frozen? ⟨g, j, none⟩ = false) ∧
        es.length ≤ cap ∧ cap * sz ≤ arr.size ∧ Holds w G.S arr.toList sz es)) : MC P (.fn f) args h (.val (.osl true false sz es), h) := by
  refine ⟨hc, fun w G vs cs hrel => ?_⟩
  obtain ⟨e, w', fr, ⟨r1, r2, r3, r4, r5⟩, hcom, hfn, hl⟩ := H w G vs hrel cs
  obtain ⟨l1, l2⟩ := hrel.letgo
  rcases r5 with ⟨rfl, rfl⟩ | ⟨b, o, rfl, rfl⟩ | ⟨g, arr, elem, fz, cap, rfl, q1, q2, q3, q4, q5, q6⟩
  · obtain ⟨m1, m2⟩ := l1.world r4 r3 ⟨r1, r2⟩
    obtain ⟨n1, n2⟩ := m1.nilOwn sz
    refine ⟨w', G, fr, _, _, hcom, hfn, n1, ?_, .inl ⟨rfl, hl⟩⟩
    exact (l2.trans m2).weaken (fun b => Nat.le_refl _) (fun b hb => by rw [n2 b]; exact (l2.trans m2).cnt b hb)
  · obtain ⟨m1, m2⟩ := l1.world r4 r3 ⟨r1, r2⟩
    obtain ⟨n1, n2⟩ := m1.emptyOwn sz b o h0
    refine ⟨w', G, fr, _, _, hcom, hfn, n1, ?_, .inl ⟨rfl, hl⟩⟩
    exact (l2.trans m2).weaken (fun b => Nat.le_refl _) (fun b hb => by rw [n2 b]; exact (l2.trans m2).cnt b hb)
  · obtain ⟨m1, m2⟩ := l1.fresh2 q1 r3 r4 q2 q3 rfl q4 h0 hsz q5 q6 ⟨r1, r2⟩
    exact ⟨w', G, fr, _, _, hcom, hfn, m1, l2.trans m2, .inl ⟨rfl, hl⟩⟩
end

end Go.Abs
