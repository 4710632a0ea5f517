/-
  WIRE: the given functions, bytes.Clone and slices.Grow of no slice. WIRE: what came in reads as sealed data; a call that answers true, over whatever came in, keeps all that was there. WIRE: a message that came in. No condition.
-/
import Derived.Test.YtkimilghfbgjmaaP25
import Derived.Test.YtkimilghfbgjmaaP14
import Derived.Shelf.Bytes.SlClone
import Derived.Shelf.Spec.SlicesGrow
import Derived.Test.YtkimilghfbgjmaaP20
import Derived.ProofKit

namespace Go.Abs
open Go Go.Proofs Go.Shelf

def rc : Ren := ⟨fun _ => 31, fun n => if n = 4 then 4 else if n = 22 then 31 else 5, fun n => n⟩
theorem layC : SlLaysK.n4 Try.prog rc where
  mixed := by decide +kernel
  f4 := by
    show Try.prog.funcs[31]? = _
    rw [Try.func31]; rfl
  t4 := Try.underlying4
  a4 := fun w => by kernel_rfl
  z4 := fun w => by kernel_rfl
  v4 := fun w => by kernel_rfl
  t22 := Try.underlying31
  a22 := fun w => by kernel_rfl
  z22 := fun w => by kernel_rfl
  v22 := fun w => by kernel_rfl
  t5 := Try.underlying5
  i5 := by kernel_rfl
def rg : Ren := ⟨fun _ => 94, fun n => if n = 22 then 31 else if n = 25 then 5 else n, fun n => n⟩
theorem layG : Lays8.n4 Try.prog rg where
  mixed := by decide +kernel
  f4 := by
    refine ⟨"slices.Grow[[]byte,byte]", by decide, ?_⟩
    show Try.prog.funcs[94]? = _
    rw [Try.func94]; rfl
  t0 := Try.underlying0
  a0 := fun w => by kernel_rfl
  z0 := fun w => by kernel_rfl
  v0 := fun w => by kernel_rfl
  t3 := Try.underlying3
  a3 := fun w => by kernel_rfl
  z3 := fun w => by kernel_rfl
  v3 := fun w => by kernel_rfl
  t4 := Try.underlying4
  a4 := fun w => by kernel_rfl
  z4 := fun w => by kernel_rfl
  v4 := fun w => by kernel_rfl
  t9 := Try.underlying9
  a9 := fun w => by kernel_rfl
  z9 := fun w => by kernel_rfl
  v9 := fun w => by kernel_rfl
  t20 := Try.underlying20
  a20 := fun w => by kernel_rfl
  z20 := fun w => by kernel_rfl
  v20 := fun w => by kernel_rfl
  t22 := Try.underlying31
  a22 := fun w => by kernel_rfl
  z22 := fun w => by kernel_rfl
  v22 := fun w => by kernel_rfl

/-- Rows of bytes are numbers. -/
theorem toBytes_ints : ∀ {es : List (List E)}, (toBytes es).isSome = true → ∃ xs : List Int, es = xs.map fun n => [.int .u8 n]
  | [], _ => ⟨[], rfl⟩
  | r :: es, h => by
    simp only [toBytes] at h
    cases hr : toByte r with
    | none => rw [hr] at h; simp at h
    | some b =>
      cases he : toBytes es with
      | none => rw [hr, he] at h; simp at h
      | some bs =>
        obtain ⟨xs, rfl⟩ := toBytes_ints (es := es) (by rw [he]; rfl)
        unfold toByte at hr
        split at hr
        · rename_i n; exact ⟨n :: xs, rfl⟩
        · simp at hr

theorem mc_clone {d : D} {es : List (List E)} {h : List O} (hd : ownD d = false) (hs : slOf d = some es) (hb : (toBytes es).isSome = true) (hl : es.length ≤ 1073741824) : MC Try.prog (.fn 31) [d] h (.val (.osl true false 1 es), h) := by
  obtain ⟨xs, rfl⟩ := toBytes_ints hb
  refine mc_fresh ⟨Try.f31, Try.func31, by decide +kernel⟩ (by omega) (by simp) (fun w G vs hrel => ?_)
  have hlen := hrel.P.len
  obtain ⟨v, rfl⟩ : ∃ v, vs = [v] := by
    cases vs with
    | nil => simp at hlen
    | cons v vs => cases vs with
      | nil => exact ⟨v, rfl⟩
      | cons a l => simp at hlen
  obtain ⟨hv, _⟩ := hrel.P.head
  rcases slOf_rows hv hd hs with ⟨e0, rfl⟩ | ⟨b, o, cap, sz, rfl, h1, h2, h3, h4⟩
  · refine (Any.bytes_Clone_nil layC 0 0 w).mono fun e w' he => ?_
    obtain ⟨rfl, rfl⟩ := he
    exact ⟨rfl, rfl, Nat.le_refl _, fun _ _ => rfl, .inl ⟨e0, rfl⟩⟩
  · have hlx : (xs.map fun n => [E.int .u8 n]).length = xs.length := by simp
    rw [hlx] at h1 hl ⊢
    refine (Any.bytes_Clone_at layC ⟨b, o, none⟩ xs.length cap xs w rfl (by omega) (fun i hi => ?_)).mono fun e w' he => ?_
    · have hi2 : (xs.map fun n => [E.int .u8 n])[i]? = some [.int .u8 xs[i]] := by simp [hi]
      have hsz : sz = 1 := by have := h3 _ (List.mem_of_getElem? hi2); simpa using this.symm
      subst hsz
      obtain ⟨_, u, q1, q2⟩ := h4 i _ hi2 0 _ rfl
      cases q2
      rw [show o + i * 1 + 0 = o + i by omega] at q1
      have ha : (⟨b, o, none⟩ : Addr).add i = ⟨b, o + i, none⟩ := by
        simp only [Addr.add]
        split
        · rename_i h; subst h; rfl
        · rfl
      rw [ha, q1]
      simp [List.getD, hi]
    · obtain ⟨v', rfl, hown, hnn, hbel⟩ := he
      refine ⟨hbel.os, hbel.output, hbel.size, hbel.block, ?_⟩
      obtain ⟨o1, o2⟩ := hown
      rcases o2 with ⟨e1, _⟩ | ⟨g, cap', cur, rfl, hg, hcell, hn, _, hsz, htk⟩
      · exact absurd e1 hnn
      · refine .inr (.inr ⟨g, cur, _, (0, 0), cap', rfl, hg, hcell, fun j hj => by simp only [World.frozen?, hcell]; simp, hn, by omega, fun i r j x hi hj => ?_⟩)
        have hi3 : i < xs.length := by have := (List.getElem?_eq_some_iff.1 hi).1; simpa using this
        have hr : r = [.int .u8 xs[i]] := by simp [hi3] at hi; exact hi.symm
        subst hr
        cases j with
        | succ j => simp at hj
        | zero =>
          simp at hj; subst hj
          refine ⟨.int .u8 xs[i], ?_, .int _ _⟩
          have : (cur.toList.take (xs.length * 1))[i]? = some (Value.int .u8 xs[i]) := by rw [htk]; simp [hi3]
          rw [List.getElem?_take_of_lt (by omega)] at this
          simpa using this

theorem mc_grow {n : Int} {h : List O} (h0 : 0 ≤ n) (hl : n ≤ 1073741824) : MC Try.prog (.fn 94) [.osl false true 0 [], .e (.int .i64 n)] h (.val (.osl true false 1 []), h) := by
  obtain ⟨m, rfl⟩ : ∃ m : Nat, n = m := ⟨n.toNat, by omega⟩
  refine mc_fresh ⟨Try.f94, Try.func94, by decide +kernel⟩ (by omega) (by simp) (fun w G vs hrel => ?_)
  have hlen := hrel.P.len
  obtain ⟨v, u, rfl⟩ : ∃ v u, vs = [v, u] := by
    cases vs with
    | nil => simp at hlen
    | cons v vs => cases vs with
      | nil => simp at hlen
      | cons a l => cases l with
        | nil => exact ⟨v, a, rfl⟩
        | cons _ _ => simp at hlen
  obtain ⟨hv, _⟩ := hrel.P.head
  obtain ⟨hu, _⟩ := hrel.P.tail.head
  have hu' : u = .int .i64 m := by cases hu with | e _ _ h => cases h; rfl
  subst hu'
  have hbase : ∃ base, v = .slice base 0 0 ∧ ∀ a, base = some a → a.spot = none := by
    cases hv with
    | oslN => exact ⟨none, rfl, by simp⟩
    | osl b o n cap _ _ _ _ hn hc hfu _ _ _ =>
      simp at hn; subst hn
      have := hfu rfl
      subst this
      exact ⟨_, rfl, fun a e => by cases e; rfl⟩
  obtain ⟨base, rfl, hsp⟩ := hbase
  by_cases hm : m = 0
  · subst hm
    refine (Any8.slices_Grow_room layG base 0 0 0 w (by omega) (by omega) (by omega) (by omega)).mono fun e w' he => ?_
    obtain ⟨rfl, rfl⟩ := he
    refine ⟨rfl, rfl, Nat.le_refl _, fun _ _ => rfl, ?_⟩
    cases base with
    | none => exact .inl ⟨rfl, rfl⟩
    | some a =>
      obtain ⟨ab, ao, asp⟩ := a
      have := hsp _ rfl
      simp only at this
      subst this
      exact .inr (.inl ⟨ab, ao, rfl, rfl⟩)
  · have hinfo : ∃ i0, Try.prog.info? 5 = some i0 ∧ i0.zero = some (.int .u8 0) ∧ i0.size = 1 ∧ i0.bytes = 1 := by
      have := layC.i5
      simp only [Option.map_eq_some_iff, Prod.mk.injEq] at this
      exact this
    obtain ⟨i0, q1, q2, q3, q4⟩ := hinfo
    refine (Any8.slices_Grow_grow layG i0 (.int .u8 0) q1 q2 (by omega) base 0 0 m [] w (by omega) (by omega) (by rw [q4]; omega) (by omega) (by simp) (fun _ => rfl) (fun a _ j v hj => by simp at hj)).mono fun e w' he => ?_
    obtain ⟨rfl, rfl⟩ := he
    have hg := grownCap_ge w (0 + m) 0 (rg.t 25)
    generalize grownCap w (0 + m) 0 (rg.t 25) = cap at hg
    have hblk : ∀ o : Obj, (w.drew.alloc o).heap[w.heap.size]? = some o := fun o => by rw [heap_alloc]; exact if_pos rfl
    refine ⟨rfl, rfl, by simp, fun b hb => heap_alloc_lt _ _ hb, .inr (.inr ⟨w.heap.size, _, _, (0, 0), cap, rfl, Nat.le_refl _, hblk _, fun j hj => by simp only [World.frozen?, hblk]; simp, by simp, ?_, fun i r j x hi hj => by simp at hi⟩)⟩
    simp only [Array.size_append, size_zeroCells, Value.cells]
    simp; omega

/-- What is said of the given functions is so. -/
theorem wpr_mc : ∀ f args d h, wpr f args = some d → MC Try.prog (.fn f) args h (.val d, h) := by
  intro f args d h hw
  unfold wpr at hw
  split at hw
  · rename_i hf; subst hf
    split at hw
    · rename_i d0
      split at hw
      · simp at hw
      · rename_i ho
        split at hw
        · rename_i es hs
          split at hw
          · rename_i hc
            simp only [Bool.and_eq_true, decide_eq_true_eq] at hc
            cases hw
            exact mc_clone (by simpa using ho) hs hc.1 hc.2
          · simp at hw
        · simp at hw
    · simp at hw
  · split at hw
    · rename_i hf; subst hf
      split at hw
      · rename_i n
        split at hw
        · rename_i hc
          cases hw
          exact mc_grow hc.1 hc.2
        · simp at hw
      · simp at hw
    · simp at hw

theorem wire_sound {f : FuncId} {args : List D} {h : List O} {r : Out × List O} (hc : call Try.prog wpr wcv (.fn f) args h = some r) : MC Try.prog (.fn f) args h r :=
  (sound (P := Try.prog) (pr := wpr) (cv := wcv) (by decide +kernel) wpr_mc).2.1 _ _ _ _ hc

end Go.Abs

namespace Go.Abs
open Go Go.Proofs Go.ChangeShapes Go.WideShapes Go.ChangeAt Go.RowKit

/-- All cells that there are, sealed. -/
def seen (W : World) : Gh := { ob := [], S := fun b j => ∃ v, W.cell? ⟨b, j, none⟩ = some v }

theorem leaf0_e' {w : World} {S : Nat → Nat → Prop} {v : Value} {x : E} : Leaf0 w S v (.e x) := by
  unfold Leaf0; split
  · rename_i hd; cases hd
  · trivial
/-- Plain data, or a struct of such. -/
inductive FlatD : D → Prop where
  | e (x : E) : FlatD (.e x)
  | agg (xs : List E) : FlatD (.agg (xs.map .e))
theorem flat_leaf {w : World} {S : Nat → Nat → Prop} {v : Value} {d : D} (h : FlatD d) : LeafT w S v d ∧ ∀ b, tokT b v d = 0 := by
  cases h with
  | e x =>
    have h1 : LeafT w S v (.e x) = Leaf0 w S v (.e x) := by
      unfold LeafT; split
      · rename_i hd; cases hd
      · unfold LeafA; split
        · rename_i hd _; cases hd
        · rfl
    have h2 : ∀ b, tokT b v (.e x) = tok b v (.e x) := by
      intro b; unfold tokT; split
      · rename_i hd; cases hd
      · unfold tokA; split
        · rename_i hd _; cases hd
        · rfl
    exact ⟨by rw [h1]; exact leaf0_e', fun b => by rw [h2]; exact tok_e _ _ _⟩
  | agg xs =>
    have h0 : ∀ (i : Nat) (d : D), (xs.map D.e)[i]? = some d → ∃ x, d = .e x := by
      intro i d hi
      simp only [List.getElem?_map, Option.map_eq_some_iff] at hi
      obtain ⟨x, _, rfl⟩ := hi
      exact ⟨x, rfl⟩
    have h1 : LeafT w S v (.agg (xs.map .e)) = LeafA w S v (.agg (xs.map .e)) := by
      unfold LeafT; split
      · rename_i hd; cases hd
      · rfl
    have h2 : ∀ b, tokT b v (.agg (xs.map .e)) = tokA b v (.agg (xs.map .e)) := by
      intro b; unfold tokT; split
      · rename_i hd; cases hd
      · rfl
    refine ⟨?_, fun b => ?_⟩
    · rw [h1]; unfold LeafA; split
      · rename_i hd
        cases hd
        intro i v d hi hd
        obtain ⟨x, rfl⟩ := h0 i d hd
        exact leaf0_e'
      · unfold Leaf0; split
        · rename_i hd _; cases hd
        · trivial
    · rw [h2]; unfold tokA; split
      · rename_i hd
        cases hd
        exact sumZ_zero _ _ _ fun i v d hi hd => by
          obtain ⟨x, rfl⟩ := h0 i d hd
          exact tok_e _ _ _
      · unfold tok; split
        · rename_i hd _; cases hd
        · rfl

theorem start {W : World} {vs : List Value} {ds : List D} (hl : vs.length = ds.length) (hr : ∀ (i : Nat) v d, vs[i]? = some v → ds[i]? = some d → RelD W (seen W) v d) (hf : ∀ d ∈ ds, FlatD d) :
    RelSt W (seen W) [] [] vs ds (hSt []) ∧ ∀ b, cntS W (seen W) [] vs ds (hSt []) b = 0 := by
  have hz : ∀ b, sumZ (tokT b) vs ds = 0 := fun b => sumZ_zero _ _ _ fun i v d hi hd => (flat_leaf (w := W) (S := (seen W).S) (hf d (List.mem_of_getElem? hd))).2 b
  have hc : ∀ b, sumZ (tokT b) [] [] + sumZ (tokT b) vs ds + hsum W b [] [] = 0 := fun b => by simp [hz b, sumZ, hsum]
  refine ⟨{ L := .nil _ _, P := ⟨hl, hr, fun i v d hi hd => (flat_leaf (hf d (List.mem_of_getElem? hd))).1⟩, len := rfl, nd := .nil, obS := fun i b h => by simp [seen] at h, H := fun i b o h => by simp [seen] at h, S := fun b j h => h, one := fun b => by rw [show (hSt []).h = [] from rfl]; have := hc b; simp only [seen] at *; omega, noob := fun b h => by simp [seen] at h, dfr := .nil }, fun b => hc b⟩

/-- All blocks that were there are as they were. -/
structure Kept (W W' : World) : Prop where
  os : W'.os = W.os
  output : W'.output = W.output
  size : W.heap.size ≤ W'.heap.size
  block : ∀ b, b < W.heap.size → W'.heap[b]? = W.heap[b]?

theorem calls_of {f : FuncId} {vs : List Value} {ds : List D} {W : World} {b : Bool} (hc : call Try.prog wpr wcv (.fn f) ds [] = some (.val (.bool b), []))
    (hl : vs.length = ds.length) (hr : ∀ (i : Nat) v d, vs[i]? = some v → ds[i]? = some d → RelD W (seen W) v d) (hf : ∀ d ∈ ds, FlatD d) :
    Calls Try.prog f vs.toArray W fun e W' => e = .returned (.bool b) ∧ Kept W W' := by
  obtain ⟨_, hm⟩ := wire_sound hc
  obtain ⟨hs, hz⟩ := start hl hr hf
  intro cs
  obtain ⟨w', G', fr, v, d, hst, hfn, hrel, hx, hd⟩ := hm W (seen W) vs cs hs
  rcases hd with ⟨h1, h2⟩ | ⟨h1, _⟩
  · cases h1
    have hv := hrel.P.rel 0 v _ rfl rfl
    cases hv with
    | e _ _ he =>
      cases he
      refine ⟨_, w', fr, ⟨rfl, hx.wo.1, hx.wo.2, hx.size, fun b hb => hx.same b hb (hz b) (by simp [seen])⟩, hst, hfn, h2⟩
  · cases h1

/-! ### what came in -/
section
variable {H : Type} {enc : TypeId × Value → H} {P : Program} {W : World}
theorem addr_none {a : Addr} (h : a.spot = none) (i : Nat) : a.add i = ⟨a.block, a.off + i, none⟩ := by
  cases a; simp only at h; subst h; simp [Addr.add]
theorem rel_ints {t e : TypeId} {k : IntKind} {n : Nat} {v : Value} {x : DataW H × List MemPlace} (ht : P.underlying t = some (.slice e)) (he : P.underlying e = some (.int k)) (hc : P.cellsOf e = 1)
    (hv : ∀ a len cap, v = .slice (some a) len cap → a.spot = none) (h : DataW.trod enc P W 0 (fun _ => true) true n t [v] = some x) :
    ∃ zs : List Int, RelE W (seen W).S v (.sl (zs.map fun z => [.int k z])) ∧ ∀ z ∈ zs, (Lit.int k z).wf = true := by
  rcases open_ints ht he hc h with ⟨h1, _⟩ | ⟨a, len, cap, zs, h1, _, hl, _, hz, _, hcell, hw⟩
  · obtain rfl := List.singleton_inj.1 h1
    exact ⟨[], .nilsl, by simp⟩
  · obtain rfl := List.singleton_inj.1 h1
    have hs := hv a len cap rfl
    simp only [if_true] at hz
    refine ⟨zs.take len, ?_, fun z hz => hw z (List.mem_of_mem_take hz)⟩
    have hlen : ((zs.take len).map fun z => [E.int k z]).length = len := by simp; omega
    have := RelE.of_rows (w := W) (S := (seen W).S) (b := a.block) (o := a.off) (cap := cap) (sz := 1) (es := (zs.take len).map fun z => [E.int k z]) (by omega) (by decide)
      (by intro r hr; obtain ⟨z, _, rfl⟩ := List.mem_map.1 hr; rfl) (by
        intro i r hi j y hj
        simp only [List.getElem?_map, Option.map_eq_some_iff] at hi
        obtain ⟨z, hz', rfl⟩ := hi
        have hi : i < len := by
          have := (List.getElem?_eq_some_iff.1 hz').1
          simp at this; omega
        cases j with
        | succ j => simp at hj
        | zero =>
          simp at hj
          subst hj
          have := hcell i (by omega)
          rw [addr_none hs] at this
          rw [List.getElem?_take, if_pos hi] at hz'
          have e : zs.getD i 0 = z := by rw [List.getD_eq_getElem?_getD, hz']; rfl
          rw [e] at this
          simp only [Nat.mul_one, Nat.add_zero]
          exact ⟨⟨_, this⟩, _, this, .int k z⟩)
    rw [hlen] at this
    have ea : a = ⟨a.block, a.off, none⟩ := by cases a; simp only at hs; subst hs; rfl
    rw [ea]
    exact this
end

end Go.Abs

namespace Go.Abs
open Go Go.Proofs Go.ChangeShapes Go.WideShapes Go.ChangeAt Go.RowKit
set_option maxRecDepth 100000

theorem types27 : Try.prog.cellTypes Try.prog.depth 27 = some [5, 3, 3, 3, 3, 4, 4, 3, 3, 22, 9, 3, 3, 4, 25] := by kernel_rfl
theorem cells27 : Try.prog.cellsOf 27 = 15 := by kernel_rfl
theorem cells22 : Try.prog.cellsOf 22 = 1 := by kernel_rfl
theorem cells3 : Try.prog.cellsOf 3 = 1 := by kernel_rfl
theorem list15 {α : Type} {l : List α} (h : l.length = 15) : ∃ a b c d e f g i j k m n o p q, l = [a, b, c, d, e, f, g, i, j, k, m, n, o, p, q] := by
  match l, h with
  | [a, b, c, d, e, f, g, i, j, k, m, n, o, p, q], _ => exact ⟨a, b, c, d, e, f, g, i, j, k, m, n, o, p, q, rfl⟩

section
variable {P : Program} {W : World} {base : Nat} {v : Value} {t : TypeId}
theorem wide_int {k : IntKind} (ht : P.underlying t = some (.int k)) (h : Cell.okWide P W .any base t v) : ∃ n, v = .int k n ∧ k.has n := by
  unfold Cell.okWide at h
  rw [ht] at h
  cases v <;> simp [Cell.ok, ht] at h
  exact ⟨_, by rw [h.1], h.2⟩
theorem wide_bool (ht : P.underlying t = some .bool) (h : Cell.okWide P W .any base t v) : ∃ b, v = .bool b := by
  unfold Cell.okWide at h
  rw [ht] at h
  cases v <;> simp [Cell.ok, ht] at h
  exact ⟨_, rfl⟩
theorem wide_str (ht : P.underlying t = some .string) (h : Cell.okWide P W .any base t v) : ∃ s, v = .string s := by
  unfold Cell.okWide at h
  rw [ht] at h
  cases v <;> simp [Cell.ok, ht] at h
  exact ⟨_, rfl⟩
theorem wide_slice {e : TypeId} (ht : P.underlying t = some (.slice e)) (h : Cell.okWide P W .any base t v) : ∀ a len cap, v = .slice (some a) len cap → a.spot = none := by
  rintro a len cap rfl
  unfold Cell.okWide at h
  rw [ht] at h
  simp [Cell.ok, ht, World.has] at h
  exact h.2.2.2.1
end

theorem relc {w : World} {G : Gh} {vs : List Value} {ds : List D} {v : Value} {x : E} (h1 : RelE w G.S v x) (h : RelL w G vs ds) : RelL w G (v :: vs) (.e x :: ds) := h.cons (.e _ _ h1) (flat_leaf (.e x)).1
theorem msg_open {H : Type} {enc : TypeId × Value → H} {W : World} {base : Nat} {v : Value} {d : DataW H} {p : List MemPlace} (hv : Value.okWide Try.prog W .any base 27 v) (h : DataW.Trod enc Try.prog W 0 (fun _ => true) true 27 v d p) :
    ∃ (m : Msg) (xs : List E), m.cs (.e (.sl (isE m.list))) = xs.map .e ∧ RelD W (seen W) v (.agg (m.cs (.e (.sl (isE m.list))))) ∧ -9223372036854775808 ≤ m.call ∧ m.call ≤ 9223372036854775807 := by
  unfold Value.okWide at hv
  rw [Try.underlying27] at hv
  obtain ⟨cs, rfl, hsz, ts, hts, _, hrow⟩ := hv
  obtain rfl := Option.some.inj (types27.symm.trans hts)
  obtain ⟨fuel, hf⟩ := h
  obtain ⟨xs, n, _, _, _, hxs, hfld⟩ := DataW.trod_struct Try.underlying27 hf
  have hl := hfld 9 _ rfl
  have hxl : xs[9]? ≠ none := by
    rw [ne_eq, List.getElem?_eq_none_iff, hxs]; decide
  obtain ⟨y, hy⟩ := Option.ne_none_iff_exists'.1 hxl
  rw [hy] at hl
  obtain ⟨l, rfl⟩ : ∃ l : List Value, cs = l.toArray := ⟨cs.toList, by simp⟩
  obtain ⟨c0, c1, c2, c3, c4, c5, c6, c7, c8, c9, c10, c11, c12, c13, c14, rfl⟩ := list15 (hsz.trans cells27)
  have hr : ∀ (i : Nat) v u, [c0, c1, c2, c3, c4, c5, c6, c7, c8, c9, c10, c11, c12, c13, c14][i]? = some v → [5, 3, 3, 3, 3, 4, 4, 3, 3, 22, 9, 3, 3, 4, 25][i % 15]? = some u → Cell.okWide Try.prog W .any base u v := by
    intro i v u h1 h2
    obtain ⟨u', h3, h4⟩ := hrow i v (by simpa using h1)
    have : u' = u := Option.some.inj (h3.symm.trans h2)
    rw [← this]; exact h4
  obtain ⟨n0, rfl, _⟩ := wide_int Try.underlying5 (hr 0 _ _ rfl rfl)
  obtain ⟨n1, rfl, b1⟩ := wide_int Try.underlying3 (hr 1 _ _ rfl rfl)
  obtain ⟨n2, rfl, _⟩ := wide_int Try.underlying3 (hr 2 _ _ rfl rfl)
  obtain ⟨n3, rfl, _⟩ := wide_int Try.underlying3 (hr 3 _ _ rfl rfl)
  obtain ⟨n4, rfl, _⟩ := wide_int Try.underlying3 (hr 4 _ _ rfl rfl)
  obtain ⟨n5, rfl⟩ := wide_bool Try.underlying4 (hr 5 _ _ rfl rfl)
  obtain ⟨n6, rfl⟩ := wide_bool Try.underlying4 (hr 6 _ _ rfl rfl)
  obtain ⟨n7, rfl, _⟩ := wide_int Try.underlying3 (hr 7 _ _ rfl rfl)
  obtain ⟨n8, rfl, _⟩ := wide_int Try.underlying3 (hr 8 _ _ rfl rfl)
  have hsp := wide_slice Try.underlying22 (hr 9 _ _ rfl rfl)
  obtain ⟨n10, rfl⟩ := wide_str Try.underlying9 (hr 10 _ _ rfl rfl)
  obtain ⟨n11, rfl, _⟩ := wide_int Try.underlying3 (hr 11 _ _ rfl rfl)
  obtain ⟨n12, rfl, _⟩ := wide_int Try.underlying3 (hr 12 _ _ rfl rfl)
  obtain ⟨n13, rfl⟩ := wide_bool Try.underlying4 (hr 13 _ _ rfl rfl)
  obtain ⟨n14, rfl, _⟩ := wide_int Try.underlying25 (hr 14 _ _ rfl rfl)
  have hl' : DataW.trod enc Try.prog W 0 (fun _ => true) true n 22 (List.take (Try.prog.cellsOf 22) [c9, .string n10, .int .i64 n11, .int .i64 n12, .bool n13, .int .i64 n14]) = some y := hl
  rw [cells22] at hl'
  have hl' : DataW.trod enc Try.prog W 0 (fun _ => true) true n 22 [c9] = some y := hl'
  obtain ⟨zs, hz, _⟩ := rel_ints Try.underlying22 Try.underlying3 cells3 hsp hl'
  refine ⟨⟨n0, n1, n2, n3, n4, n5, n6, n7, n8, zs, n10, n11, n12, n13, n14⟩, [.int .u8 n0, .int .i64 n1, .int .i64 n2, .int .i64 n3, .int .i64 n4, .bool n5, .bool n6, .int .i64 n7, .int .i64 n8, .sl (isE zs), .str n10, .int .i64 n11, .int .i64 n12, .bool n13, .int .i64 n14], rfl, ?_, ?_⟩
  · refine .agg _ _ rfl ?_ ?_
    · intro v hv
      simp only [List.mem_cons, List.not_mem_nil, or_false] at hv
      rcases hv with rfl | rfl | rfl | rfl | rfl | rfl | rfl | rfl | rfl | rfl | rfl | rfl | rfl | rfl | rfl <;> first | rfl | exact hz.one
    · have := (relc (.int .u8 n0) <| relc (.int .i64 n1) <| relc (.int .i64 n2) <| relc (.int .i64 n3) <| relc (.int .i64 n4) <| relc (.bool n5) <| relc (.bool n6) <| relc (.int .i64 n7) <| relc (.int .i64 n8) <|
        relc hz <| relc (.str n10) <| relc (.int .i64 n11) <| relc (.int .i64 n12) <| relc (.bool n13) <| relc (.int .i64 n14) <| RelL.nil W (seen W)).rel
      intro i v d h1 h2
      exact this i v d (by simpa using h1) h2
  · exact b1

end Go.Abs
