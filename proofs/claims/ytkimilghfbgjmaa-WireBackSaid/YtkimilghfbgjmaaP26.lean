/-
  WIRE: 32 bits side by side that are not all as they were change the sum. WIRE: bits that are turned. WIRE: WireBack. No condition.
-/
import Derived.Test.YtkimilghfbgjmaaP23
import Derived.Test.YtkimilghfbgjmaaP25
import Derived.Test.YtkimilghfbgjmaaP24

namespace Go.Abs
open Go Go.Proofs

theorem stp_eq (s : BitVec 32) (b : Bool) : stp s b = ((s <<< 1) ^^^ (if b then 1#32 else 0#32)) ^^^ (if s.msb then 1947962583#32 else 0#32) := by
  have h1 : (s <<< 1) + (if b then 1#32 else 0#32) = (s <<< 1) ^^^ (if b then 1#32 else 0#32) := by
    cases b
    · simp
    · have : (s <<< 1) &&& 1#32 = 0#32 := by
        apply BitVec.eq_of_getLsbD_eq
        intro i hi
        by_cases h : i = 0
        · subst h; simp
        · simp [h]
      simp only [if_true]
      rw [BitVec.add_eq_or_of_and_eq_zero _ _ this]
      apply BitVec.eq_of_getLsbD_eq
      intro i hi
      by_cases h : i = 0
      · subst h; simp
      · simp [h]
  have h2 : (-(s >>> 31)) &&& 1947962583#32 = if s.msb then 1947962583#32 else 0#32 := by
    have hs := s.isLt
    have e : s >>> 31 = if s.msb then 1#32 else 0#32 := by
      apply BitVec.eq_of_toNat_eq
      rw [BitVec.msb_eq_decide]
      simp only [BitVec.toNat_ushiftRight, Nat.shiftRight_eq_div_pow]
      by_cases h : 2 ^ (32 - 1) ≤ s.toNat
      · simp only [h, decide_true, if_true]; simp at h ⊢; omega
      · simp only [h, decide_false, Bool.false_eq_true, if_false]; simp at h ⊢; omega
    rw [e]
    cases s.msb <;> decide
  rw [stp, h1, h2]

theorem stp_xor (s t : BitVec 32) (a b : Bool) : stp (s ^^^ t) (a ^^ b) = stp s a ^^^ stp t b := by
  simp only [stp_eq, BitVec.shiftLeft_xor_distrib, BitVec.msb_xor]
  apply BitVec.eq_of_getLsbD_eq
  intro i hi
  simp only [BitVec.getLsbD_xor]
  generalize (s <<< 1).getLsbD i = x
  generalize (t <<< 1).getLsbD i = y
  cases s.msb <;> cases t.msb <;> cases a <;> cases b <;> simp <;> cases x <;> cases y <;> simp <;> generalize (1947962583#32).getLsbD i = p <;> generalize decide (i = 0) = q <;> cases p <;> cases q <;> rfl
def xorL (a b : List Bool) : List Bool := List.zipWith (fun x y => x ^^ y) a b
theorem fold_xor : ∀ (l m : List Bool) (s t : BitVec 32), l.length = m.length → (xorL l m).foldl stp (s ^^^ t) = l.foldl stp s ^^^ m.foldl stp t := by
  intro l
  induction l with
  | nil => intro m s t h; cases m with
    | nil => rfl
    | cons y m => simp at h
  | cons x l ih => intro m s t h; cases m with
    | nil => simp at h
    | cons y m =>
      simp only [xorL, List.zipWith_cons_cons, List.foldl_cons, stp_xor]
      exact ih m _ _ (by simpa using h)
theorem fold_zero (n : Nat) : (List.replicate n false).foldl stp 0#32 = 0#32 := by
  induction n with
  | zero => rfl
  | succ n ih => rw [List.replicate_succ, List.foldl_cons, show stp 0#32 false = 0#32 by decide]; exact ih
theorem stp_inj {s : BitVec 32} (h : stp s false = 0#32) : s = 0#32 := by
  rw [stp_eq] at h
  simp only [Bool.false_eq_true, if_false, BitVec.xor_zero] at h
  have h0 := congrArg (fun v => v.getLsbD 0) h
  have hm : s.msb = false := by
    cases hm : s.msb with
    | false => rfl
    | true => rw [hm] at h0; simp at h0
  rw [hm] at h
  simp only [Bool.false_eq_true, if_false, BitVec.xor_zero] at h
  apply BitVec.eq_of_toNat_eq
  have h1 := congrArg BitVec.toNat h
  rw [BitVec.msb_eq_decide] at hm
  have hs := s.isLt
  simp [Nat.shiftLeft_eq] at h1 hm ⊢
  omega
theorem fold_inj (n : Nat) {s : BitVec 32} (h : (List.replicate n false).foldl stp s = 0#32) : s = 0#32 := by
  induction n generalizing s with
  | zero => exact h
  | succ n ih => rw [List.replicate_succ, List.foldl_cons] at h; exact stp_inj (ih h)
def numB (n : Nat) (l : List Bool) : Nat := l.foldl (fun n b => 2 * n + b.toNat) n
theorem stp_num {s : BitVec 32} {b : Bool} (h : s.toNat < 2147483648) : (stp s b).toNat = 2 * s.toNat + b.toNat := by
  have hm : s.msb = false := by rw [BitVec.msb_eq_decide]; simp; omega
  have e : stp s b = (s <<< 1) + (if b then 1#32 else 0#32) := by
    have h2 : (-(s >>> 31)) &&& 1947962583#32 = 0#32 := by
      have : s >>> 31 = 0#32 := by
        apply BitVec.eq_of_toNat_eq
        simp [Nat.shiftRight_eq_div_pow]; omega
      rw [this]; decide
    rw [stp, h2, BitVec.xor_zero]
  rw [e]
  cases b <;> simp [Nat.shiftLeft_eq] <;> omega
theorem fold_num : ∀ (l : List Bool) (s : BitVec 32), (s.toNat + 1) * 2 ^ l.length ≤ 4294967296 → (l.foldl stp s).toNat = numB s.toNat l := by
  intro l
  induction l with
  | nil => intro s _; rfl
  | cons b l ih =>
    intro s h
    rw [List.length_cons, Nat.pow_succ] at h
    have hp : 1 ≤ 2 ^ l.length := Nat.one_le_two_pow
    have h1 : (s.toNat + 1) * 2 ≤ 4294967296 := by
      refine Nat.le_trans ?_ h
      rw [Nat.mul_comm (2 ^ l.length) 2, ← Nat.mul_assoc]
      exact Nat.le_mul_of_pos_right _ hp
    have hb : b.toNat ≤ 1 := by cases b <;> decide
    have e := stp_num (s := s) (b := b) (by omega)
    rw [List.foldl_cons, ih _ (by
      rw [e]
      refine Nat.le_trans (Nat.mul_le_mul_right _ (show 2 * s.toNat + b.toNat + 1 ≤ (s.toNat + 1) * 2 by omega)) ?_
      rw [Nat.mul_assoc, Nat.mul_comm 2]; exact h), e]
    rfl
theorem bits8_eq (x : UInt8) : bits8 x = [x.toNat.testBit 7, x.toNat.testBit 6, x.toNat.testBit 5, x.toNat.testBit 4, x.toNat.testBit 3, x.toNat.testBit 2, x.toNat.testBit 1, x.toNat.testBit 0] := by
  have key : ∀ n : Fin 256, bits8 (UInt8.ofNat n.val) = [n.val.testBit 7, n.val.testBit 6, n.val.testBit 5, n.val.testBit 4, n.val.testBit 3, n.val.testBit 2, n.val.testBit 1, n.val.testBit 0] := by decide +kernel
  have := key ⟨x.toNat, x.toNat_lt⟩
  simpa using this
theorem num8 (n : Nat) (x : UInt8) : numB n (bits8 x) = 256 * n + x.toNat := by
  have key : ∀ n : Fin 256, numB 0 (bits8 (UInt8.ofNat n.val)) = n.val := by decide +kernel
  have h0 := key ⟨x.toNat, x.toNat_lt⟩
  simp only [UInt8.ofNat_toNat] at h0
  rw [bits8_eq] at h0 ⊢
  simp only [numB, List.foldl_cons, List.foldl_nil] at h0 ⊢
  omega
theorem phi_tail (v : BitVec 32) : (Zf1 (tail4 v)).foldl stp 0#32 = v := by
  apply BitVec.eq_of_toNat_eq
  have hl : (Zf1 (tail4 v)).length = 32 := by simp [Zf1, tail4, bits8]
  rw [fold_num _ _ (by rw [hl]; decide)]
  have hv := v.isLt
  have e : ∀ (n : Nat) (l m : List Bool), numB n (l ++ m) = numB (numB n l) m := fun n l m => by simp [numB, List.foldl_append]
  simp only [Zf1, tail4, List.flatMap_cons, List.flatMap_nil, List.append_nil, e, num8]
  simp [Nat.shiftRight_eq_div_pow]
  omega
theorem bits_zero4 : Zf1 [0, 0, 0, 0] = List.replicate 32 false := by decide +kernel
theorem bits_app (a b : List UInt8) : Zf1 (a ++ b) = Zf1 a ++ Zf1 b := by simp [Zf1]
theorem xorL_zero : ∀ l : List Bool, xorL (List.replicate l.length false) l = l := by
  intro l
  induction l with
  | nil => rfl
  | cons x l ih => simp only [List.length_cons, List.replicate_succ, xorL, List.zipWith_cons_cons, Bool.false_xor] at ih ⊢; rw [ih]
theorem full_zero (M : List UInt8) : (Zf1 (M ++ tail4 (crc M))).foldl stp 4294967295#32 = 0#32 := by
  have hl : (Zf1 (tail4 (crc M))).length = 32 := by simp [Zf1, tail4, bits8]
  have h1 := xorL_zero (Zf1 (tail4 (crc M)))
  rw [hl] at h1
  have h2 := fold_xor (List.replicate 32 false) (Zf1 (tail4 (crc M))) ((Zf1 M).foldl stp 4294967295#32) 0#32 (by simp [hl])
  rw [h1, BitVec.xor_zero, phi_tail] at h2
  have h3 : crc M = (List.replicate 32 false).foldl stp ((Zf1 M).foldl stp 4294967295#32) := by
    rw [crc, bits_app, List.foldl_append, bits_zero4]
  rw [bits_app, List.foldl_append, h2, ← h3, BitVec.xor_self]
theorem frame_zero {c : List UInt8} {k : Nat} (h : Zhs c k = true) : (Zf1 c).foldl stp 4294967295#32 = 0#32 := by
  simp only [Zhs, Bool.and_eq_true, decide_eq_true_eq] at h
  have := full_zero (c.take (4 + k))
  rw [← h.2.2, List.take_append_drop] at this
  exact this
theorem num_pos : ∀ (l : List Bool) (n : Nat), (0 < n ∨ true ∈ l) → 0 < numB n l := by
  intro l
  induction l with
  | nil => intro n h; simpa [numB] using h
  | cons b l ih =>
    intro n h
    simp only [numB, List.foldl_cons]
    refine ih _ ?_
    rcases h with h | h
    · left; omega
    · rcases List.mem_cons.1 h with h | h
      · subst h; left; simp
      · right; exact h
theorem burst_ne (a b : Nat) (w : List Bool) (hw : w.length = 32) (ht : true ∈ w) : (List.replicate a false ++ w ++ List.replicate b false).foldl stp 0#32 ≠ 0#32 := by
  rw [List.foldl_append, List.foldl_append, fold_zero]
  intro h
  have h1 := fold_inj b h
  have h2 := fold_num w 0#32 (by rw [hw]; decide)
  rw [h1] at h2
  have := num_pos w 0 (.inr ht)
  simp at h2; omega
/-- With a burst it is no frame. -/
theorem burst_frame {c c' : List UInt8} {k a b : Nat} {w : List Bool} (hok : Zhs c k = true) (hw : w.length = 32) (ht : true ∈ w) (hl : a + 32 + b = (Zf1 c).length)
    (he : Zf1 c' = xorL (Zf1 c) (List.replicate a false ++ w ++ List.replicate b false)) : Zhs c' k = false := by
  cases h : Zhs c' k with
  | false => rfl
  | true =>
    have h1 := frame_zero hok
    have h2 := frame_zero h
    have h3 := fold_xor (Zf1 c) (List.replicate a false ++ w ++ List.replicate b false) 4294967295#32 0#32 (by simp; omega)
    rw [← he, BitVec.xor_zero, h1, h2, BitVec.zero_xor] at h3
    exact absurd h3.symm (burst_ne a b w hw ht)
end Go.Abs

namespace Go.Abs
open Go Go.Proofs

/-- One bit turned, the highest of the first byte first. -/
def flip1 (c : List UInt8) (j : Nat) : List UInt8 := c.set (j / 8) (c.getD (j / 8) 0 ^^^ UInt8.ofNat (128 / 2 ^ (j % 8)))
def Ziq (c : List UInt8) (pos by_ : Nat) : Nat → List UInt8
  | 0 => c
  | i + 1 => if by_.testBit i then flip1 (Ziq c pos by_ i) (pos + i) else Ziq c pos by_ i
theorem flip1_len {c : List UInt8} {j : Nat} : (flip1 c j).length = c.length := by simp [flip1]
theorem flips_len {c : List UInt8} {pos by_ n : Nat} : (Ziq c pos by_ n).length = c.length := by
  induction n with
  | zero => rfl
  | succ n ih => simp only [Ziq]; split <;> simp [flip1_len, ih]
theorem flips_zero {c : List UInt8} {pos n : Nat} : Ziq c pos 0 n = c := by
  induction n with
  | zero => rfl
  | succ n ih => simp [Ziq, ih]
theorem bits8_len {x : UInt8} : (bits8 x).length = 8 := rfl
theorem bits_len {c : List UInt8} : (Zf1 c).length = 8 * c.length := by
  induction c with
  | nil => rfl
  | cons x c ih => simp only [Zf1, List.flatMap_cons, List.length_append, bits8_len, List.length_cons] at ih ⊢; omega
theorem bits_get (c : List UInt8) (j : Nat) : (Zf1 c)[j]? = (c[j / 8]?).bind fun x => (bits8 x)[j % 8]? := by
  induction c generalizing j with
  | nil => simp [Zf1]
  | cons x c ih =>
    simp only [Zf1, List.flatMap_cons] at ih ⊢
    by_cases h : j < 8
    · rw [List.getElem?_append_left (by rw [bits8_len]; exact h), show j / 8 = 0 by omega, show j % 8 = j by omega]
      rfl
    · rw [List.getElem?_append_right (by rw [bits8_len]; omega), bits8_len, ih, show j / 8 = (j - 8) / 8 + 1 by omega, show (j - 8) % 8 = j % 8 by omega, List.getElem?_cons_succ]
theorem bits8_flip (x : UInt8) (r : Nat) (hr : r < 8) : bits8 (x ^^^ UInt8.ofNat (128 / 2 ^ r)) = (bits8 x).modify r (!·) := by
  have key : ∀ n : Fin 256, ∀ r : Fin 8, bits8 (UInt8.ofNat n.val ^^^ UInt8.ofNat (128 / 2 ^ r.val)) = (bits8 (UInt8.ofNat n.val)).modify r.val (!·) := by decide +kernel
  have := key ⟨x.toNat, x.toNat_lt⟩ ⟨r, hr⟩
  simpa using this
theorem bits_flip {c : List UInt8} {j : Nat} (hj : j < 8 * c.length) (i : Nat) : (Zf1 (flip1 c j))[i]? = if i = j then ((Zf1 c)[i]?).map (!·) else (Zf1 c)[i]? := by
  have hq : j / 8 < c.length := by omega
  rw [bits_get, bits_get, flip1]
  by_cases h8 : j / 8 = i / 8
  · rw [← h8, List.getElem?_set_self hq]
    have hx : c[j / 8]? = some (c[j / 8]'hq) := List.getElem?_eq_getElem hq
    have hd : c.getD (j / 8) 0 = c[j / 8]'hq := by rw [List.getD_eq_getElem?_getD, hx]; rfl
    rw [hd, hx]
    simp only [Option.bind_some, bits8_flip _ _ (Nat.mod_lt j (by decide)), List.getElem?_modify]
    by_cases h : i = j
    · subst h; simp
    · have hne : ¬ j % 8 = i % 8 := by omega
      simp only [if_neg h, hne, if_false]
      cases (bits8 (c[j / 8]'hq))[i % 8]? <;> rfl
  · rw [List.getElem?_set_ne h8, if_neg (show ¬ i = j by intro h; subst h; exact h8 rfl)]
/-- Which bits are turned. -/
def pat (L pos by_ n : Nat) : List Bool := (List.range L).map fun j => decide (pos ≤ j) && (decide (j < pos + n) && by_.testBit (j - pos))
theorem xorL_get (a b : List Bool) (i : Nat) : (xorL a b)[i]? = match a[i]?, b[i]? with | some x, some y => some (x ^^ y) | _, _ => none := by
  simp only [xorL, List.getElem?_zipWith]
  cases a[i]? <;> cases b[i]? <;> rfl
theorem bits_flips (c : List UInt8) (pos by_ n : Nat) (h : pos + n ≤ 8 * c.length) : Zf1 (Ziq c pos by_ n) = xorL (Zf1 c) (pat (8 * c.length) pos by_ n) := by
  apply List.ext_getElem?
  intro i
  induction n with
  | zero =>
    rw [xorL_get, pat, List.getElem?_map]
    by_cases hi : i < 8 * c.length
    · rw [List.getElem?_range hi]
      have : ¬ (pos ≤ i ∧ i < pos + 0) := by omega
      have e : (decide (pos ≤ i) && (decide (i < pos + 0) && by_.testBit (i - pos))) = false := by
        by_cases h1 : pos ≤ i
        · have : decide (i < pos + 0) = false := by simp; omega
          rw [this]; simp
        · simp [h1]
      rw [List.getElem?_eq_getElem (show i < (Zf1 c).length by rw [bits_len]; exact hi)]
      simp only [Option.map_some, e, Bool.xor_false, Ziq]
      exact List.getElem?_eq_getElem (show i < (Zf1 c).length by rw [bits_len]; exact hi)
    · rw [List.getElem?_eq_none (by rw [bits_len]; simp [Ziq]; omega), List.getElem?_eq_none (by rw [bits_len]; omega)]
  | succ n ih =>
    have ih := ih (by omega)
    have e : ∀ v : Bool, (Ziq c pos by_ (n + 1)) = if by_.testBit n then flip1 (Ziq c pos by_ n) (pos + n) else Ziq c pos by_ n := fun _ => rfl
    rw [e true]
    have hp : (pat (8 * c.length) pos by_ (n + 1))[i]? = if i = pos + n ∧ i < 8 * c.length then some (by_.testBit n) else (pat (8 * c.length) pos by_ n)[i]? := by
      simp only [pat, List.getElem?_map]
      by_cases hi : i < 8 * c.length
      · rw [List.getElem?_range hi]
        simp only [Option.map_some]
        by_cases hin : i = pos + n
        · rw [if_pos ⟨hin, hi⟩]
          subst hin
          have h1 : decide (pos ≤ pos + n) = true := by simp
          have h2 : decide (pos + n < pos + (n + 1)) = true := by simp
          rw [h1, h2, show pos + n - pos = n by omega]; rfl
        · rw [if_neg (by intro h; exact hin h.1)]
          congr 3
          by_cases h1 : i < pos + n
          · simp [h1, show i < pos + (n + 1) by omega]
          · simp [h1, show ¬ i < pos + (n + 1) by omega]
      · rw [if_neg (by intro h; exact hi h.2)]
        rw [List.getElem?_eq_none (by simp; omega)]; rfl
    have hp0 : i = pos + n → (pat (8 * c.length) pos by_ n)[i]? = some false := by
      intro hin
      subst hin
      simp only [pat, List.getElem?_map]
      rw [List.getElem?_range (by omega)]
      simp
    rw [xorL_get, hp]
    cases hb : by_.testBit n with
    | false =>
      rw [if_neg (by simp), ih, xorL_get]
      by_cases hin : i = pos + n
      · rw [hp0 hin, if_pos ⟨hin, by omega⟩]
      · rw [if_neg (by intro h; exact hin h.1)]
    | true =>
      rw [if_pos rfl, bits_flip (by rw [flips_len]; omega), ih, xorL_get]
      by_cases hin : i = pos + n
      · rw [if_pos hin, hp0 hin, if_pos ⟨hin, by omega⟩]
        cases (Zf1 c)[i]? with
        | none => rfl
        | some x => simp
      · rw [if_neg hin, if_neg (by intro h; exact hin h.1)]
theorem pat_eq (L pos by_ : Nat) (h : pos + 32 ≤ L) : pat L pos by_ 32 = List.replicate pos false ++ (List.range 32).map by_.testBit ++ List.replicate (L - pos - 32) false := by
  apply List.ext_getElem?
  intro i
  simp only [pat, List.getElem?_map]
  by_cases h1 : i < pos
  · rw [List.append_assoc, List.getElem?_append_left (by simpa using h1), List.getElem?_range (by omega), List.getElem?_replicate, if_pos h1]
    simp; omega
  · by_cases h2 : i < pos + 32
    · rw [List.append_assoc, List.getElem?_append_right (by simp; omega), List.getElem?_append_left (by simp; omega), List.getElem?_range (by omega), List.getElem?_map, List.length_replicate, List.getElem?_range (by omega)]
      simp [h2, show pos ≤ i by omega]
    · by_cases h3 : i < L
      · rw [List.getElem?_append_right (by simp; omega), List.getElem?_replicate, if_pos (by simp; omega), List.getElem?_range h3]
        simp [h2]
      · rw [List.getElem?_eq_none (by simp; omega), List.getElem?_eq_none (by simp; omega)]; rfl
theorem pat_any {by_ : Nat} (h0 : by_ ≠ 0) (h : by_ < 4294967296) : true ∈ (List.range 32).map by_.testBit := by
  obtain ⟨i, hi⟩ := Nat.exists_testBit_of_ne_zero h0
  refine List.mem_map.2 ⟨i, List.mem_range.2 ?_, hi⟩
  rcases Nat.lt_or_ge i 32 with h1 | h1
  · exact h1
  · exfalso
    have h2 : 2 ^ 32 ≤ 2 ^ i := Nat.pow_le_pow_right (by decide) h1
    rw [Nat.testBit_lt_two_pow (by omega)] at hi
    exact absurd hi (by simp)
/-- What is turned is no frame. -/
theorem flips_frame {c : List UInt8} {k pos by_ : Nat} (hok : Zhs c k = true) (h0 : by_ ≠ 0) (h : by_ < 4294967296) (hp : pos + 32 ≤ 8 * c.length) : Zhs (Ziq c pos by_ 32) k = false := by
  refine burst_frame (a := pos) (b := 8 * c.length - pos - 32) hok (by simp) (pat_any h0 h) (by rw [bits_len]; omega) ?_
  rw [bits_flips c pos by_ 32 hp, pat_eq _ _ _ hp]
end Go.Abs

namespace Go.Abs
open Go Go.Proofs
set_option maxRecDepth 10000
set_option maxHeartbeats 8000000

section
variable {tl : List D} {df : List (FuncId × List D)} {r : Rc} {h : List O} {t : Tmp}
theorem cv1_opnM : cv1 ⟨tl, df, r, h⟩ (.opn t) = (match openD h.length (tl.getD t Zav) with
    | some (d, o) => ⟨tl.set t d, df, r, h ++ [o]⟩
    | none => ⟨tl, df, r, h⟩) := rfl
theorem cv1_shutM : cv1 ⟨tl, df, r, h⟩ (.shut t) = (match tl.getD t Zav with
    | .asl i 0 n => (match shutD h i n with
      | some d => ⟨tl.set t d, df, r, h.set i .dead⟩
      | none => ⟨tl, df, r, h⟩)
    | _ => ⟨tl, df, r, h⟩) := rfl
theorem open_by {n : Nat} {fu : Bool} {c : List UInt8} (h : c ≠ []) : openD n (.osl true fu 1 (byE c)) = some (.asl n 0 c.length, .cells (bD c)) := by
  cases c with
  | nil => exact absurd rfl h
  | cons b c =>
    have hf : ∀ l : List UInt8, (byE l).flatten.map D.e = bD l := fun l => by
      induction l with
      | nil => rfl
      | cons x l ih => simp only [byE, bD, List.map_cons, List.flatten_cons, List.map_append] at ih ⊢; rw [ih]; rfl
    show openD n (.osl true fu 1 (byR b :: byE c)) = _
    simp only [openD]
    have := hf (b :: c)
    simp only [byE, List.map_cons] at this
    rw [show (byR b :: byE c) = (byR b :: List.map byR c) from rfl, this]
    simp [byE]
end
theorem fits_list {m : Msg} (hf : m.Fits) : m.list = Zip (natsI m.list) ∧ m.list.length ≤ 3 := by
  have ho := hf.off
  have hff := hf.fine
  by_cases h7 : m.kind = 7
  · simp [Msg.fine, h7] at hff
    obtain ⟨hl, hx⟩ := listZ_num hff.2
    exact ⟨(intsN_natsI m.list hx).symm, hl⟩
  · have e : m.list = [] := by
      have e7 : (m.kind == 7) = false := by simpa using h7
      have := congrArg Msg.list ho
      simp only [Msg.off, e7, Bool.false_eq_true, if_false, Msg.head, Msg.noItem] at this
      repeat' (split at this)
      all_goals simpa using this
    rw [e]; exact ⟨rfl, by simp⟩

/-- What is put is taken. -/
theorem take_back (m : Msg) (hf : m.Fits) (hr : m.right = true) (b : D) (hb : Rd b (byE (Zgk (payL m)))) (h : List O) :
    wc 11 [b] h = some (.val (.tup [.agg (m.cs (lrD (natsI m.list))), .int .i64 0]), h) := by
  have hpl := payL_len hf
  refine w11_ok b _ (payL m) m (natsI m.list) 0 hb (fun h => ?_) (fun b hb h => ?_) h
  · have := w24 b (Zgk (payL m)) hb (payL m).length (closeL_len _) (by rw [closeL_len]; omega) h
    have e : ((Zgk (payL m)).take (4 + (payL m).length)).drop 4 = payL m := by
      rw [List.drop_take, show 4 + (payL m).length - 4 = (payL m).length by omega, closeL_mid]
    rw [okFrame_close _ (by omega), if_pos rfl, e] at this
    exact this
  · have hh := heads_pay m hf []
    simp only [List.append_nil] at hh
    have x := fits_nat hf
    have k1 := hf.k1
    have k2 := hf.k2
    have hfill := fill_body m hf []
    simp only [List.append_nil] at hfill
    have e : Zgd m.kind.toNat m.call.toNat m.frm.toNat m.to.toNat = m.head := by
      simp only [Zgd, Msg.head, Msg.mk.injEq]
      refine ⟨by omega, by omega, by omega, by omega, ?_⟩; simp
    have := w17_ok b (payL m) (bodyL m) [] m.kind.toNat m.call.toNat m.frm.toNat m.to.toNat m (natsI m.list) hb (by omega) hh (by omega) (by rw [e]; exact hfill) (fits_list hf).1 h
    rw [if_pos ⟨rfl, hr⟩] at this
    exact this
/-- What is no frame is not taken. -/
theorem take_no (c : List UInt8) (k : Nat) (hc : c.length = k + 8) (hx : c.length ≤ 100000) (hok : Zhs c k = false) (b : D) (hb : Rd b (byE c)) (h : List O) :
    wc 11 [b] h = some (.val (.tup [.agg (msg0.cs (.osl false true 0 [])), .int .i64 12]), h) :=
  w11_bad b c 12 hb (by decide) (fun h => by
    have := w24 b c hb k hc hx h
    rw [hok] at this
    simpa using this) h
theorem w3_pre (m : Msg) (a : D) (ha : Rd a (isE m.list)) (hcm : -9223372036854775808 ≤ m.call ∧ m.call ≤ 9223372036854775807) (p0 : Int) (y : Nat) (h : List O)
    (hn : ¬ ((40 : Int) < m.list.length ∨ (300 : Int) < m.ikey.size) → m.Fits → wc 3 [.agg (m.cs a), .int .i64 p0, .int .u32 (y : Int)] h = some (.val (.bool true), h)) :
    wc 3 [.agg (m.cs a), .int .i64 p0, .int .u32 (y : Int)] h = some (.val (.bool true), h) := by
  have h7 := w7 m a ha
  have h8 := w8
  simp only [Msg.cs] at h7
  by_cases hg : (40 : Int) < m.list.length ∨ (300 : Int) < m.ikey.size
  · have hgm : (decide ((40 : Int) < m.list.length) || decide ((300 : Int) < m.ikey.size)) = true := by simpa using hg
    rw [hgm] at h7
    have hcv0 : wcv 3 0 = [] := rfl
    have hcv1 : wcv 3 1 = [] := rfl
    have hcv2 : wcv 3 2 = [] := rfl
    have hcv3 : wcv 3 3 = [] := rfl
    have hcv4 : wcv 3 4 = [] := rfl
    have hcv5 : wcv 3 5 = [] := rfl
    have hcv6 : wcv 3 6 = [] := rfl
    have hcv7 : wcv 3 7 = [] := rfl
    have hcv8 : wcv 3 8 = [] := rfl
    have hcv9 : wcv 3 9 = [] := rfl
    have hcv10 : wcv 3 10 = [] := rfl
    have hcv11 : wcv 3 11 = [] := rfl
    have hcv12 : wcv 3 12 = [] := rfl
    have hcv13 : wcv 3 13 = [.opn 14] := rfl
    have hcv14 : wcv 3 14 = [] := rfl
    have hcv15 : wcv 3 15 = [] := rfl
    have hcv16 : wcv 3 16 = [] := rfl
    have hcv17 : wcv 3 17 = [] := rfl
    have hcv18 : wcv 3 18 = [.shut 14] := rfl
    have hcv19 : wcv 3 19 = [] := rfl
    have hres : Try.f3.results.toList = [ResultVar.tmp 6] := rfl
    rw [wc, Zbt rfl Try.func3 rfl]
    simp only [Zbi, List.length_cons, List.length_nil, Nat.reduceAdd, Nat.reduceSub, List.replicate, List.cons_append, List.nil_append, Zaj, Zaz, Za7, Zal, Za3, Zbr, Zae, Zao, Zbe, Zbf, Za9, Zbq, Option.bind_some, ne_eq, reduceCtorEq, not_false_eq_true, implies_true, Bool.false_eq_true, Option.map_some, List.set_cons_succ, List.set_cons_zero, List.getD_cons_succ, List.getD_cons_zero, Zau, Zbo, List.any_cons, List.any_nil, Zb3, ↓reduceIte, Za0, Zd2, Za4, Zaq, Zac, Zaw, Zap, Zax, Zb0, Zab, Zaa, Zah, Zat, Zbm, Ze2, List.foldl_nil, Zas, Zbg, Zad, Zb1, Zb9, Zbs, Zb2, List.take_succ_cons, List.take_zero, List.drop_zero, Zag, Bool.or_self, Nat.zero_add, Nat.le_refl, sz27, ag27, Zcy, hcv0, hcv1, hcv2, Try.ntmps3, hres, Msg.cs, ha.own, h7, h8]
  have hgm : (decide ((40 : Int) < m.list.length) || decide ((300 : Int) < m.ikey.size)) = false := by rw [Bool.eq_false_iff]; simpa using hg
  have hxm : m.list.length ≤ 1099511627776 := by omega
  have hr6 := w10 m a ha hxm
  cases hrm : m.right with
  | true => exact hn hg ((Ziu hcm.1 hcm.2).1 hrm)
  | false =>
    have rm : m.right6 = false := by
      rw [Bool.eq_false_iff, ne_eq, right6_fits, ← Ziu hcm.1 hcm.2, hrm]; simp
    have h9 := w9_bad m a ha hxm hrm
    rw [hgm] at h7
    rw [rm] at hr6
    have e2 : ((2 : Int) == 2) = true := by decide
    have e0 : (((0 : Nat) : Int) == 0) = true := by decide
    have l0 : ∀ H, len0 Try.prog 31 (.osl false true 0 []) H = some 0 := fun H => len0_of Try.underlying31 Zg0
    simp only [Msg.cs] at h9 hr6
    have hcv0 : wcv 3 0 = [] := rfl
    have hcv1 : wcv 3 1 = [] := rfl
    have hcv2 : wcv 3 2 = [] := rfl
    have hcv3 : wcv 3 3 = [] := rfl
    have hcv4 : wcv 3 4 = [] := rfl
    have hcv5 : wcv 3 5 = [] := rfl
    have hcv6 : wcv 3 6 = [] := rfl
    have hcv7 : wcv 3 7 = [] := rfl
    have hcv8 : wcv 3 8 = [] := rfl
    have hcv9 : wcv 3 9 = [] := rfl
    have hcv10 : wcv 3 10 = [] := rfl
    have hcv11 : wcv 3 11 = [] := rfl
    have hcv12 : wcv 3 12 = [] := rfl
    have hcv13 : wcv 3 13 = [.opn 14] := rfl
    have hcv14 : wcv 3 14 = [] := rfl
    have hcv15 : wcv 3 15 = [] := rfl
    have hcv16 : wcv 3 16 = [] := rfl
    have hcv17 : wcv 3 17 = [] := rfl
    have hcv18 : wcv 3 18 = [.shut 14] := rfl
    have hcv19 : wcv 3 19 = [] := rfl
    have hres : Try.f3.results.toList = [ResultVar.tmp 6] := rfl
    rw [wc, Zbt rfl Try.func3 rfl]
    simp only [Zbi, List.length_cons, List.length_nil, Nat.reduceAdd, Nat.reduceSub, List.replicate, List.cons_append, List.nil_append, Zaj, Zbz, Zaz, Za7, Zal, Zar, Za3, Zbr, Zae, Zao, Zbb, Zbe, Zbf, Zak, Za9, Zbq, Zc0, List.getElem?_toArray, List.getElem?_cons_succ, List.getElem?_cons_zero, Option.bind_some, Nat.reduceLT, ne_eq, reduceCtorEq, not_false_eq_true, implies_true, Bool.not_false, Bool.false_eq_true, Option.map_some, List.set_cons_succ, List.set_cons_zero, List.getD_cons_succ, List.getD_cons_zero, Zau, Zdj, Zbo, List.any_cons, List.any_nil, Zb3, Bool.or_false, ↓reduceIte, Za0, Za6, Zdn, Zam, Zd2, Zc7, Za4, Zaf, Zaq, Zac, Zai, Zaw, Zap, Zan, Zax, Zb8, Zay, Zes, Zd0, Zb0, Zab, Zaa, Zah, Zat, Zbm, Option.some.injEq, Ze2, List.foldl_nil, Zas, Zbg, Zad, Zb1, Zb9, Zbs, Zb2, List.take_succ_cons, List.take_zero, List.drop_zero, Option.bind_eq_bind, Zag, Bool.or_self, Nat.zero_add, Option.pure_def, Nat.le_refl, sz27, ag27, Zcy, hcv0, hcv1, hcv3, hcv4, hcv5, Try.ntmps3, hres, Msg.cs, ha.own, h7, h8, h9, hr6, e2, e0, l0, Zdd, Zgp, Zj1, back, Zcp, taken, Zbj, Zdo, beq_self_eq_true, Nat.reduceBEq]

noncomputable def tl3 : Option Code := Try.f3.body.bind (fromR 12)
theorem stop12 {β : Type} {P : Program} {pr : FuncId → List D → Option D} {cv : FuncId → Nat → List Cv} {f : FuncId} {r : Code} {s : St} {k : X × St → Option β} {a : Array Oper} {b : Bool} :
    kSeq P pr cv f (.seq (.region 12 a b) r) k (.nrm, s) = Stop P pr cv f (.seq (.region 12 a b) r) s k := rfl
def pat3 (cl : List UInt8) (pos y : Nat) : List (Option D) := [none, some (.int .i64 (pos : Int)), some (.int .u32 (y : Int)), none, none, none, none, some (.osl false false 1 (byE cl)), none, none, none, none, none, none, none, none, none, none, none, none, none, none, none, none, none, none, none, none, none, none, none, none, none, none, none, none, none, none, none, none, none, none, none, none, none, none, none, none, none, none, none, none, none, none, none, none, none, none, none, none, none, none, none, none, none, none, none, none, none, none, none, none, none, none, none, none, none, none, none, none, none, none, none, none, none, none, none, none, none, none, none, none, none, none, none, none, none, none, none, none, none, none, none, none, none, none, none, none, none, none, none, none, none, none, none, none, none, none, none, none, none, none, none, none, none, none, none, none, none, none, none, none, none, none, none, none]
theorem app31o {xs : List UInt8} (hl : xs.length ≤ 100000) : Zfi Try.prog 31 (.osl true true 1 []) (.e (.sl (byE xs))) false = some (.osl true false 1 (byE xs)) := by
  have := app31 (ex := true) (fu := true) (es := []) (xs := byE xs) slOf_e (ok_byE _) (by simp [byE]; omega)
  simpa using this

theorem bit_test {y i : Nat} (hi : i < 32) (hy : y < 4294967296) : (IntKind.u32.wrap ((BitVec.ofInt 32 ((y : Int).fdiv (2 ^ min i 32)) &&& BitVec.ofInt 32 1).toNat : Int) == 1) = y.testBit i := by
  have h1 : (y : Int).fdiv (2 ^ min i 32) = ((y / 2 ^ i : Nat) : Int) := by
    rw [show min i 32 = i by omega, Int.fdiv_eq_ediv_of_nonneg _ (by exact Int.le_of_lt (Int.pow_pos (by decide)))]
    norm_cast
  have h2 : (BitVec.ofInt 32 ((y / 2 ^ i : Nat) : Int) &&& BitVec.ofInt 32 1).toNat = y / 2 ^ i % 2 := by
    have hle : y / 2 ^ i ≤ y := Nat.div_le_self _ _
    generalize y / 2 ^ i = z at hle
    rw [BitVec.toNat_and, show (BitVec.ofInt 32 1).toNat = 1 by decide, Nat.and_one_is_mod, BitVec.toNat_ofInt]
    congr 1; simp; omega
  rw [h1, h2]
  have h3 : IntKind.u32.wrap ((y / 2 ^ i % 2 : Nat) : Int) = ((y / 2 ^ i % 2 : Nat) : Int) := by rw [IntKind.wrap]; simp [IntKind.bits, IntKind.signed]; omega
  rw [h3, Nat.testBit_eq_decide_div_mod_eq, Bool.eq_iff_iff]
  generalize y / 2 ^ i % 2 = z
  simp
  omega
theorem kCond_is {β : Type} {P : Program} {pr : FuncId → List D → Option D} {cv : FuncId → Nat → List Cv} {f : FuncId} {A B : Code} {s : St} {k : X × St → Option β} {b b' : Bool} {R : Option β} (h : b = b')
    (hk : kCond P pr cv f (.e (.bool b')) A B s k = R) : kCond P pr cv f (.e (.bool b)) A B s k = R := by subst h; exact hk
theorem xor_byte (x : UInt8) (r : Nat) (hr : r < 8) : IntKind.u8.wrap ((BitVec.ofInt 8 (x.toNat : Int) ^^^ BitVec.ofInt 8 (Int.fdiv 128 (2 ^ min r 8))).toNat : Int) = ((x ^^^ UInt8.ofNat (128 / 2 ^ r)).toNat : Int) := by
  have key : ∀ n : Fin 256, ∀ r : Fin 8, IntKind.u8.wrap ((BitVec.ofInt 8 ((UInt8.ofNat n.val).toNat : Int) ^^^ BitVec.ofInt 8 (Int.fdiv 128 (2 ^ min r.val 8))).toNat : Int) = ((UInt8.ofNat n.val ^^^ UInt8.ofNat (128 / 2 ^ r.val)).toNat : Int) := by decide +kernel
  have := key ⟨x.toNat, x.toNat_lt⟩ ⟨r, hr⟩
  simpa only [UInt8.ofNat_toNat] using this
theorem w3_tail (zs : List D) (A B : O) (m : Msg) (ns : List Nat) (cl : List UInt8) (k pos y : Nat) (h : List O) (c : Code) (hc : tl3 = some c) (hcl : cl.length = k + 8) (hx : cl.length ≤ 1000) (hok : Zhs cl k = true) (hy : y < 4294967296)
    (hpos : pos + 32 ≤ 8 * cl.length) (hbk : ∀ b, Rd b (byE cl) → ∀ h, wc 11 [b] h = some (.val (.tup [.agg (m.cs (lrD ns)), .int .i64 0]), h)) :
    kx Try.prog wpr wcv 3 c ⟨mkT (pat3 cl pos y) zs 0, [], .no, h ++ [A, B]⟩ (kF Try.prog wpr wcv Try.f3 h) = some (.val (.bool true), h) := by
  have h8 := w8
  have ap := app31o (xs := cl) (by omega)
  have hne : cl ≠ [] := by intro e; rw [e] at hcl; simp at hcl
  have hop := fun n => open_by (n := n) (fu := false) hne
  obtain rfl := Option.some.inj ((rfl : tl3 = some _).symm.trans hc)
  rw [pat3]
  have hcv0 : wcv 3 0 = [] := rfl
  have hcv1 : wcv 3 1 = [] := rfl
  have hcv2 : wcv 3 2 = [] := rfl
  have hcv3 : wcv 3 3 = [] := rfl
  have hcv4 : wcv 3 4 = [] := rfl
  have hcv5 : wcv 3 5 = [] := rfl
  have hcv6 : wcv 3 6 = [] := rfl
  have hcv7 : wcv 3 7 = [] := rfl
  have hcv8 : wcv 3 8 = [] := rfl
  have hcv9 : wcv 3 9 = [] := rfl
  have hcv10 : wcv 3 10 = [] := rfl
  have hcv11 : wcv 3 11 = [] := rfl
  have hcv12 : wcv 3 12 = [] := rfl
  have hcv13 : wcv 3 13 = [.opn 14] := rfl
  have hcv14 : wcv 3 14 = [] := rfl
  have hcv15 : wcv 3 15 = [] := rfl
  have hcv16 : wcv 3 16 = [] := rfl
  have hcv17 : wcv 3 17 = [] := rfl
  have hcv18 : wcv 3 18 = [.shut 14] := rfl
  have hcv19 : wcv 3 19 = [] := rfl
  have hres : Try.f3.results.toList = [ResultVar.tmp 6] := rfl
  simp only [List.length_cons, List.length_nil, Nat.reduceAdd, List.cons_append, List.nil_append, Zaj, Zc3, Za3, Zae, Zao, Zbb, Za9, List.getElem?_toArray, List.getElem?_cons_succ, List.getElem?_cons_zero, ne_eq, reduceCtorEq, not_false_eq_true, implies_true, Bool.false_eq_true, Option.map_some, List.set_cons_succ, List.set_cons_zero, List.getD_cons_succ, List.getD_cons_zero, Zau, List.any_cons, List.any_nil, ↓reduceIte, Za0, Zby, Zaf, Zaq, Ze7, Zan, Zdi, Ze2, mkT, List.foldl_nil, hlen, Zi9, List.map_nil, Bool.or_self, Nat.zero_add, Try.underlying31, Zcy, List.foldl_cons, hcv12, hcv13, bs31_0, ap, List.zip_nil_right, cv1_opnM, hop, Zcp, taken, Zbj, Zdo, Nat.reduceBEq, Zdb, Zcg, Zgo, Zf7, Zev, Zd1, Zc1, shr_nf, Zf2]
  refine Zfd (fun (n : Nat) (s : St) => ∃ (i : Nat), (i + n = 33 ∧ i ≤ 32) ∧ ∃ zs_, s = ⟨mkT [none, some (.int .i64 (pos : Int)), some (.int .u32 (y : Int)), none, none, none, none, none, none, none, none, none, none, none, some (.asl (h.length + 2) 0 cl.length), some (.int .i64 (i : Int)), none, none, none, none, none, none, none, none, none, none, none, none, none, none, none, none, none, none, none, none, none, none, none, none, none, none, none, none, none, none, none, none, none, none, none, none, none, none, none, none, none, none, none, none, none, none, none, none, none, none, none, none, none, none, none, none, none, none, none, none, none, none, none, none, none, none, none, none, none, none, none, none, none, none, none, none, none, none, none, none, none, none, none, none, none, none, none, none, none, none, none, none, none, none, none, none, none, none, none, none, none, none, none, none, none, none, none, none, none, none, none, none, none, none, none, none, none, none, none, none] zs_ 0, [], .no, h ++ [A, B, .cells (bD (Ziq cl pos y i))]⟩) ?_ (33) ⟨0, ⟨by omega, by omega⟩, Zd7 rfl rfl rfl rfl⟩
  rintro n _ ⟨i, hf_o, zs_o, rfl⟩ IH_o
  obtain ⟨hn, hi2⟩ := hf_o
  by_cases hi : i < 32
  rotate_left
  · have e2 : decide ((i : Int) < 32) = false := by simp; omega
    have hi32 : i = 32 := by omega
    subst hi32
    have hsh : ∀ (A B : O) (c : List UInt8), c ≠ [] → shutD (h ++ [A, B, .cells (bD c)]) (h.length + 2) c.length = some (.e (.sl (byE c))) := fun A B c hc => shutD_bD (by simp [Zbp]) hc
    have hfl : (Ziq cl pos y 32).length = cl.length := flips_len
    have hfn : Ziq cl pos y 32 ≠ [] := by intro e; rw [e] at hfl; simp at hfl; omega
    have hsh := hsh A B (Ziq cl pos y 32) hfn
    rw [hfl] at hsh
    by_cases hy0 : y = 0
    · subst hy0
      have h11 := hbk (.e (.sl (byE cl))) Rd.e
      rw [flips_zero] at hsh
      have q1 : ((0 : Int) == 0) = true := by decide
      have q2 : (((0 : Nat) : Int) == 0) = true := by decide
      cases ns with
      | nil =>
        simp only [lrD, Msg.cs] at h11
        simp only [List.length_cons, List.length_nil, Nat.reduceAdd, List.cons_append, List.nil_append, Zaj, Zaz, Zfe, Za7, Zar, Za3, Zeg, Zeh, Zdu, Zae, Zao, Zbe, Zbf, Zak, Za9, Zce, Zbq, Zc0, List.getElem?_toArray, List.getElem?_cons_succ, List.getElem?_cons_zero, Option.bind_some, Nat.reduceLT, ne_eq, reduceCtorEq, not_false_eq_true, implies_true, Bool.false_eq_true, Option.map_some, List.set_cons_succ, List.set_cons_zero, List.getD_cons_succ, List.getD_cons_zero, Zau, Zbo, List.any_cons, List.any_nil, Zb3, Zds, Bool.or_false, ↓reduceIte, Za0, Za6, Zam, Zdz, Zbc, Zc7, Za4, Zaf, Zac, Zai, Zaw, Zap, Zan, Zb8, Zc2, Zfh, Zay, Zbv, Zb0, Zab, Zaa, Zah, Zat, Zbm, and_self, Option.some.injEq, Ze2, mkT, List.foldl_nil, List.append_nil, Zbh, Zbg, Zcz, Ze4, hlen, Zi9, Zad, Zb4, Zb1, Zb9, Zcq, Zb2, List.take_zero, List.drop_succ_cons, List.drop_zero, Bool.or_self, Nat.zero_add, Nat.le_refl, Try.underlying4, sz27, Zcy, List.foldl_cons, hcv14, hcv18, hcv19, hres, e2, flips_zero, cv1_shutM, hsh, h11, h8, zo27, q1, q2, Zdd, Zgp, ownA_agg, Zcp, taken, Zbj, Zdo, beq_self_eq_true, Nat.reduceBEq, Zcu]
      | cons n ns =>
        simp only [lrD, Msg.cs] at h11
        simp only [List.length_cons, List.length_nil, Nat.reduceAdd, List.cons_append, List.nil_append, Zaj, Zaz, Zfe, Za7, Zar, Za3, Zeg, Zeh, Zdu, Zae, Zao, Zbe, Zbf, Zak, Za9, Zce, Zbq, Zc0, List.getElem?_toArray, List.getElem?_cons_succ, List.getElem?_cons_zero, Option.bind_some, Nat.reduceLT, ne_eq, reduceCtorEq, not_false_eq_true, implies_true, Bool.false_eq_true, Option.map_some, List.set_cons_succ, List.set_cons_zero, List.getD_cons_succ, List.getD_cons_zero, Zau, Zbo, List.any_cons, List.any_nil, Zb3, Bool.or_false, ↓reduceIte, Za0, Za6, Zam, Zdz, Zbc, Zc7, Za4, Zaf, Zac, Zai, Zaw, Zap, Zan, Zb8, Zc2, Zfh, Zay, Zbv, Zb0, Zab, Zaa, Zah, Zat, Zbm, and_self, Option.some.injEq, Ze2, mkT, List.foldl_nil, List.append_nil, Zbh, Zbg, Zcz, Ze4, hlen, Zi9, Zad, Zb4, Zb1, Zb9, Zcq, Zb2, List.take_zero, List.drop_succ_cons, List.drop_zero, List.map_cons, List.map_nil, Bool.or_self, Bool.or_true, Nat.zero_add, Nat.le_refl, Try.underlying4, sz27, Zcy, List.foldl_cons, hcv14, hcv18, hcv19, hres, e2, flips_zero, cv1_shutM, hsh, h11, h8, zo27, q1, q2, Zdd, Zgp, ownA_agg, Zfr, left_e, left_agg, left0_e, Zcp, taken, Zbj, Zdo, beq_self_eq_true, Nat.reduceBEq, Zdb, Zcg, Zfn, left0_nf, Zcu]
    · have h11 := take_no (Ziq cl pos y 32) k (by rw [hfl, hcl]) (by omega) (flips_frame hok hy0 hy hpos) (.e (.sl (byE (Ziq cl pos y 32)))) Rd.e
      simp only [Msg.cs, msg0] at h11
      have q1 : ((12 : Int) == 0) = false := by decide
      have q2 : ((y : Int) == 0) = false := by simp; omega
      simp only [List.length_cons, List.length_nil, Nat.reduceAdd, List.cons_append, List.nil_append, Zaj, Zaz, Zfe, Za7, Zar, Za3, Zeg, Zeh, Zdu, Zae, Zao, Zbe, Zbf, Zak, Za9, Zce, Zbq, Zc0, List.getElem?_toArray, List.getElem?_cons_succ, List.getElem?_cons_zero, Option.bind_some, Nat.reduceLT, ne_eq, reduceCtorEq, not_false_eq_true, implies_true, Bool.false_eq_true, Option.map_some, List.set_cons_succ, List.set_cons_zero, List.getD_cons_succ, List.getD_cons_zero, Zau, Zbo, List.any_cons, List.any_nil, Zb3, Zds, Bool.or_false, ↓reduceIte, Za0, Za6, Zam, Zdz, Zbc, Zc7, Za4, Zaf, Zac, Zai, Zaw, Zap, Zan, Zb8, Zc2, Zfh, Zay, Zbv, Zb0, Zab, Zaa, Zah, Zat, Zbm, and_self, Option.some.injEq, Ze2, mkT, List.foldl_nil, List.append_nil, Zbh, Zbg, Zcz, Ze4, hlen, Zi9, Zad, Zb4, Zb1, Zb9, Zcq, Zb2, List.take_zero, List.drop_succ_cons, List.drop_zero, Bool.or_self, Nat.zero_add, Nat.le_refl, Try.underlying4, sz27, Zcy, List.foldl_cons, hcv14, hcv18, hcv19, hres, e2, cv1_shutM, hsh, h11, h8, zo27, q1, q2, Zdd, Zgp, ownA_agg, Zcp, taken, Zbj, Zdo, beq_self_eq_true, Nat.reduceBEq, Zcu]
  have e2 : decide ((i : Int) < 32) = true := by simp; omega
  have hwu : IntKind.u64.wrap (i : Int) = (i : Int) := by rw [IntKind.wrap]; simp [IntKind.bits, IntKind.signed]; omega
  have hnn : ¬ ((i : Int) < 0) := by omega
  have hbt := bit_test hi hy
  simp only [Nat.reduceAdd, Zaj, Zbz, Zc3, Za7, Zal, Za3, Zae, Zao, Za9, ne_eq, reduceCtorEq, not_false_eq_true, implies_true, Option.map_some, List.set_cons_succ, List.set_cons_zero, List.getD_cons_succ, List.getD_cons_zero, Zau, Za2, Za6, Zck, Zaf, Zac, Zai, Zan, binD_and, Zb8, Zc2, Zh4, IntKind.bits, Zhw, Zay, Zbv, Ze2, mkT, List.foldl_nil, Nat.zero_add, Zcy, hcv14, hcv16, e2, Zey Try.underlying3 Try.underlying38, hwu, Zfj hnn, Int.toNat_natCast]
  refine kCond_is hbt ?_
  cases hb : y.testBit i with
  | false =>
    have hfi : Ziq cl pos y i = Ziq cl pos y (i + 1) := by simp [Ziq, hb]
    simp only [Zbz, Zar, Za3, Zc8, Ze8, Zae, Zao, Za9, ne_eq, reduceCtorEq, not_false_eq_true, implies_true, Option.map_some, List.set_cons_succ, List.set_cons_zero, List.getD_cons_succ, List.getD_cons_zero, Zau, Za2, Za0, Za6, Za4, Zac, Zai, Zan, Zdf, Zcv, Ze2, List.foldl_nil, Zcy, hcv15, inc64 (show i < 33 by omega) (by omega)]
    rw [hfi]
    refine IH_o (33 - (i + 1)) _ (by omega) ⟨i + 1, ⟨by omega, by omega⟩, Zd7 rfl rfl rfl rfl⟩
  | true =>
    have hlen : (Ziq cl pos y i).length = cl.length := flips_len
    have hj : (pos + i) / 8 < cl.length := by omega
    have hxi : (Ziq cl pos y i)[(pos + i) / 8]? = some ((Ziq cl pos y i)[(pos + i) / 8]'(by omega)) := List.getElem?_eq_getElem (by omega)
    generalize hx' : (Ziq cl pos y i)[(pos + i) / 8]'(by omega) = x at hxi
    have hfi : Ziq cl pos y (i + 1) = (Ziq cl pos y i).set ((pos + i) / 8) (x ^^^ UInt8.ofNat (128 / 2 ^ ((pos + i) % 8))) := by
      have : (Ziq cl pos y i).getD ((pos + i) / 8) 0 = x := by rw [List.getD_eq_getElem?_getD, hxi]; rfl
      simp only [Ziq, hb, if_true, flip1, this]
    have hw1 : IntKind.i64.wrap ((pos : Int) + (i : Int)) = ((pos + i : Nat) : Int) := by rw [Zf9 (by omega) (by omega)]; omega
    have hq : IntKind.i64.wrap (((pos + i : Nat) : Int).tdiv 8) = (((pos + i) / 8 : Nat) : Int) := by
      rw [Int.tdiv_eq_ediv_of_nonneg (by omega), Zf9 (by omega) (by omega)]; omega
    have hm : ((pos + i : Nat) : Int).tmod 8 = (((pos + i) % 8 : Nat) : Int) := by
      rw [Int.tmod_eq_emod_of_nonneg (by omega)]; omega
    have hwr : IntKind.u64.wrap (((pos + i) % 8 : Nat) : Int) = (((pos + i) % 8 : Nat) : Int) := by rw [IntKind.wrap]; simp [IntKind.bits, IntKind.signed]; omega
    have hnn2 : ¬ ((((pos + i) % 8 : Nat) : Int) < 0) := by omega
    simp only [List.length_cons, List.length_nil, Zal, Za3, Zc8, Ze8, Zae, Zao, Za9, Zce, Option.bind_some, ne_eq, reduceCtorEq, not_false_eq_true, implies_true, Bool.false_eq_true, Option.map_some, List.set_cons_succ, List.set_cons_zero, List.getD_cons_succ, List.getD_cons_zero, Zau, own_asl, Zb3, ↓reduceIte, Za2, Za0, Za6, Zck, Zbc, Zbl, Za4, Zaf, Zac, Zai, Zan, Zdf, binD_quo, binD_rem, binD_xor, Zh4, IntKind.bits, Zcv, Zif, and_self, Ze2, List.foldl_nil, Zbh, Zbg, Zcz, Ze4, hlen, Zad, Zb4, Zc9, Zco, Zbs, Zcq, Zag, Nat.zero_add, sz5, ag5, Zcy, hcv15, hcv17, inc64 (show i < 33 by omega) (by omega), hw1, arith_quo (b := 8) (by decide), Zig (b := 8) (by decide), hq, hm, Zey Try.underlying3 Try.underlying38, hwr, Zfj hnn2, Int.toNat_natCast, ix_asl hj, bD_len, bD_get hxi, show (pos + i) / 8 + 1 ≤ cl.length by omega]
    refine IH_o (33 - (i + 1)) _ (by omega) ⟨i + 1, ⟨by omega, by omega⟩, Zd7 rfl rfl ?_ rfl⟩
    have hb8 := bD_put (l := Ziq cl pos y i) (i := (pos + i) / 8) (b := x ^^^ UInt8.ofNat (128 / 2 ^ ((pos + i) % 8))) (by omega)
    rw [← hfi, ← xor_byte x _ (Nat.mod_lt _ (by decide))] at hb8
    exact congrArg (fun q => h ++ [A, B, O.cells q]) hb8

def N3 (n : Nat) : Nat := 8 * (n + 8) - 31
theorem pos3 {p0 : Int} {n : Nat} (hp0 : -9223372036854775808 ≤ p0 ∧ p0 ≤ 9223372036854775807) (hn : n ≤ 1000) :
    IntKind.i64.wrap (p0.tmod (N3 n : Nat) + (N3 n : Nat)) = p0.tmod (N3 n : Nat) + (N3 n : Nat) ∧ ∃ pos : Nat, (p0.tmod (N3 n : Nat) + (N3 n : Nat)).tmod (N3 n : Nat) = (pos : Int) ∧ pos < N3 n := by
  have h1 : 0 < N3 n := by simp [N3]; omega
  have h2 : N3 n ≤ 10000 := by simp [N3]; omega
  generalize N3 n = N at h1 h2
  have a1 := Int.tmod_lt_of_pos p0 (show (0 : Int) < (N : Int) by omega)
  have a2 := Int.tmod_lt_of_pos (-p0) (show (0 : Int) < (N : Int) by omega)
  rw [Int.neg_tmod] at a2
  refine ⟨by rw [Zf9 (by omega) (by omega)], ((p0.tmod N + N).tmod N).toNat, ?_, ?_⟩
  · rw [Int.tmod_eq_emod_of_nonneg (by omega)]
    have := Int.emod_nonneg (p0.tmod N + N) (show (N : Int) ≠ 0 by omega)
    omega
  · rw [Int.tmod_eq_emod_of_nonneg (by omega)]
    have := Int.emod_nonneg (p0.tmod N + N) (show (N : Int) ≠ 0 by omega)
    have := Int.emod_lt_of_pos (p0.tmod N + N) (show (0 : Int) < (N : Int) by omega)
    omega
theorem w3_end (s : St) (A B : O) (m : Msg) (ns : List Nat) (cl : List UInt8) (k pos y : Nat) (h : List O) (c : Code) (hc : tl3 = some c) (hcl : cl.length = k + 8) (hx : cl.length ≤ 1000) (hok : Zhs cl k = true) (hy : y < 4294967296)
    (hpos : pos + 32 ≤ 8 * cl.length) (hbk : ∀ b, Rd b (byE cl) → ∀ h, wc 11 [b] h = some (.val (.tup [.agg (m.cs (lrD ns)), .int .i64 0]), h))
    (h1 : s.d = []) (h2 : s.r = .no) (h3 : s.h = h ++ [A, B]) (h4 : mkT (pat3 cl pos y) s.t 0 = s.t) :
    kx Try.prog wpr wcv 3 c s (kF Try.prog wpr wcv Try.f3 h) = some (.val (.bool true), h) := by
  obtain ⟨zs, rfl⟩ := Zd7 h1 h2 h3 h4
  exact w3_tail zs A B m ns cl k pos y h c hc hcl hx hok hy hpos hbk

theorem w3 (m : Msg) (a : D) (ha : Rd a (isE m.list)) (hcm : -9223372036854775808 ≤ m.call ∧ m.call ≤ 9223372036854775807) (p0 : Int) (hp0 : -9223372036854775808 ≤ p0 ∧ p0 ≤ 9223372036854775807) (y : Nat) (hy : y < 4294967296) (h : List O) :
    wc 3 [.agg (m.cs a), .int .i64 p0, .int .u32 (y : Int)] h = some (.val (.bool true), h) := by
  refine w3_pre m a ha hcm p0 y h fun hg hf => ?_
  have hgm : (decide ((40 : Int) < m.list.length) || decide ((300 : Int) < m.ikey.size)) = false := by rw [Bool.eq_false_iff]; simpa using hg
  have h7 := w7 m a ha
  have h8 := w8
  have hxm : m.list.length ≤ 1099511627776 := by omega
  have hr := (Ziu hcm.1 hcm.2).2 hf
  have rm : m.right6 = true := right6_fits.2 hf
  have hr6 := w10 m a ha hxm
  have h9 := w9 m a ha hxm hr hf
  have h12 := w12 m a ha hxm hr hf
  have h11 := take_back m hf hr (.e (.sl (byE (Zgk (payL m))))) Rd.e
  obtain ⟨hml, hm3⟩ := fits_list hf
  have h13 := w13 m m (lsD (natsI m.list)) a (by have := lsD_rd (natsI m.list); rwa [← hml] at this) ha hxm
  have e13 : (decide (m.list = m.list) && sameCs m m) = true := by rw [same_iff]
  have h14 := w14
  have hpl := payL_len hf
  have hcl := closeL_len (payL m)
  have hok := okFrame_close (payL m) (by omega)
  have hbk := fun b hb => take_back m hf hr b hb
  rw [hgm] at h7
  rw [rm] at hr6
  rw [e13] at h13
  generalize payL m = py at h9 h12 h11 hpl hcl hok hbk
  generalize Zgk py = cl at h9 h11 hcl hok hbk
  generalize natsI m.list = ns at h11 h13 hbk
  have e0 : ((0 : Int) != 0) = false := by decide
  have lc : ∀ H, len0 Try.prog 31 (.e (.sl (byE cl))) H = some (py.length + 8) := fun H => by rw [len31e]; simp [byE, hcl]
  have lp : ∀ H, len0 Try.prog 31 (.e (.sl (byE py))) H = some py.length := fun H => by rw [len31e]; simp [byE]
  have w1 : IntKind.i64.wrap ((py.length : Int) + 8) = ((py.length + 8 : Nat) : Int) := by rw [Zf9 (by omega) (by omega)]; omega
  have wn : IntKind.i64.wrap (IntKind.i64.wrap (8 * ((py.length + 8 : Nat) : Int)) - 31) = (N3 py.length : Nat) := by
    rw [Zf9 (n := 8 * ((py.length + 8 : Nat) : Int)) (by omega) (by omega), Zf9 (by omega) (by omega)]; simp [N3]; omega
  have hN0 : ((N3 py.length : Nat) : Int) ≠ 0 := by simp [N3]; omega
  obtain ⟨wp, pos, hpe, hpl2⟩ := pos3 hp0 (show py.length ≤ 1000 by omega)
  have hpc : pos + 32 ≤ 8 * cl.length := by rw [hcl]; simp [N3] at hpl2; omega
  have g1 : decide ((46 : Int) < (py.length : Int)) = false := by simp; omega
  have g2 : (((py.length + 8 : Nat) : Int) != ((py.length + 8 : Nat) : Int)) = false := by simp
  simp only [Msg.cs] at h7 h9 hr6 h12 h11 h13
  have hcv0 : wcv 3 0 = [] := rfl
  have hcv1 : wcv 3 1 = [] := rfl
  have hcv2 : wcv 3 2 = [] := rfl
  have hcv3 : wcv 3 3 = [] := rfl
  have hcv4 : wcv 3 4 = [] := rfl
  have hcv5 : wcv 3 5 = [] := rfl
  have hcv6 : wcv 3 6 = [] := rfl
  have hcv7 : wcv 3 7 = [] := rfl
  have hcv8 : wcv 3 8 = [] := rfl
  have hcv9 : wcv 3 9 = [] := rfl
  have hcv10 : wcv 3 10 = [] := rfl
  have hcv11 : wcv 3 11 = [] := rfl
  have hcv12 : wcv 3 12 = [] := rfl
  have hcv13 : wcv 3 13 = [.opn 14] := rfl
  have hcv14 : wcv 3 14 = [] := rfl
  have hcv15 : wcv 3 15 = [] := rfl
  have hcv16 : wcv 3 16 = [] := rfl
  have hcv17 : wcv 3 17 = [] := rfl
  have hcv18 : wcv 3 18 = [.shut 14] := rfl
  have hcv19 : wcv 3 19 = [] := rfl
  have hres : Try.f3.results.toList = [ResultVar.tmp 6] := rfl
  rw [wc, Zbt rfl Try.func3 rfl]
  cases ns with
  | nil =>
    simp only [lrD, lsD] at h11 h13
    simp only [Zbi, List.length_cons, List.length_nil, Nat.reduceAdd, Nat.reduceSub, List.replicate, List.cons_append, List.nil_append, Zaj, Zbz, Za7, Zar, Za3, Zae, Zao, Zbb, Zbe, Zbf, Zak, Za9, Zce, Zbq, Zc0, List.getElem?_toArray, List.getElem?_cons_succ, List.getElem?_cons_zero, Option.bind_some, Nat.reduceLT, ne_eq, reduceCtorEq, not_false_eq_true, implies_true, Bool.not_true, Bool.false_eq_true, Option.map_some, List.set_cons_succ, List.set_cons_zero, List.getD_cons_succ, List.getD_cons_zero, Zau, Zbo, List.any_cons, List.any_nil, Zb3, Zds, Bool.or_false, ↓reduceIte, Za0, Za6, Zdn, Zam, Zdz, Zd2, Zbc, Zc7, Za4, Zaf, Zaq, Zac, Zai, Zaw, Zap, Zan, Zax, Zdf, Zgn, binD_mul, binD_rem, Zel, Zf6, Zcv, Zft, Zih, Ze0, Zei, Zes, Zd0, and_self, Option.some.injEq, Ze2, List.foldl_nil, List.append_nil, Zas, Zbh, Zbg, Zcz, Ze4, hlen, Zi9, Zad, Zb4, Zb1, Zb9, Zcm, Zbs, Zcq, List.take_succ_cons, List.take_zero, List.drop_succ_cons, List.drop_zero, List.map_cons, List.map_nil, Option.bind_eq_bind, Zag, Bool.or_self, Nat.zero_add, Option.pure_def, Nat.le_refl, sz27, ag27, Zcy, hcv0, hcv1, hcv3, hcv4, hcv6, hcv7, hcv8, hcv10, hcv11, Try.ntmps3, Msg.cs, ha.own, h7, h9, hr6, h12, h11, h13, h14, e0, lc, lp, w1, g1, g2, zo27, wn, Zig hN0, wp, hpe, ↓stop12, Zdd, Zgp, Zhr, ownA_agg, Zfr, left_e, back, Zcp, taken, Zbj, Zdo, beq_self_eq_true, Nat.reduceBEq, Zdb, Zcg, Zgo, Zf7, Zd1, Zc1, leftT_nf, Zi8, left_nf, shr_nf, Zf2]
    exact w3_end _ _ _ m [] cl py.length pos y h _ rfl hcl (by omega) hok hy hpc hbk rfl rfl rfl rfl
  | cons n ns =>
    simp only [lrD, lsD] at h11 h13
    simp only [Zbi, List.length_cons, List.length_nil, Nat.reduceAdd, Nat.reduceSub, List.replicate, List.cons_append, List.nil_append, Zaj, Zbz, Za7, Zar, Za3, Zae, Zao, Zbb, Zbe, Zbf, Zak, Za9, Zce, Zbq, Zc0, List.getElem?_toArray, List.getElem?_cons_succ, List.getElem?_cons_zero, Option.bind_some, Nat.reduceLT, ne_eq, reduceCtorEq, not_false_eq_true, implies_true, Bool.not_true, Bool.false_eq_true, Option.map_some, List.set_cons_succ, List.set_cons_zero, List.getD_cons_succ, List.getD_cons_zero, Zau, Zbo, List.any_cons, List.any_nil, Zb3, Bool.or_false, ↓reduceIte, Za0, Za6, Zdn, Zam, Zdz, Zd2, Zbc, Zc7, Za4, Zaf, Zaq, Zac, Zai, Zaw, Zap, Zan, Zax, Zdf, Zgn, binD_mul, binD_rem, Zel, Zf6, Zcv, Zft, Zih, Ze0, Zei, Zes, Zd0, and_self, Option.some.injEq, Zfp, Zfx, Ze2, List.foldl_nil, List.append_nil, Zas, Zbh, Zbg, Zcz, Ze4, hlen, Zi9, Zad, Zb4, Zb1, Zb9, Zcm, Zbs, Zcq, List.take_succ_cons, List.take_zero, List.drop_succ_cons, List.drop_zero, List.map_cons, List.map_nil, Option.bind_eq_bind, Zag, Bool.or_self, Bool.or_true, Nat.zero_add, Option.pure_def, Nat.le_refl, sz27, ag27, Zcy, hcv0, hcv1, hcv3, hcv4, hcv6, hcv7, hcv8, hcv10, hcv11, Try.ntmps3, Msg.cs, ha.own, h7, h9, hr6, h12, h11, h13, h14, e0, lc, lp, w1, g1, g2, zo27, kep0_e, wn, Zig hN0, wp, hpe, ↓stop12, Zdd, Zgp, Zhr, ownA_agg, Zfr, left_e, left_agg, left0_e, back, Zcp, taken, Zbj, Zdo, beq_self_eq_true, Nat.reduceBEq, Zdb, Zcg, Zgo, Zf7, Zd1, Zfn, Zc1, leftT_nf, Zi8, left_nf, left0_nf, shr_nf, Zf2, kep0_osl]
    exact w3_end _ _ _ m (n :: ns) cl py.length pos y h _ rfl hcl (by omega) hok hy hpc hbk rfl rfl rfl rfl
end Go.Abs
