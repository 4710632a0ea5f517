/-
  MORE RULES for running the evaluator: values, results. WIRE: the program's types, as the evaluator asks for them. WIRE: the small functions. No condition.
-/
import Derived.Test.YtkimilghfbgjmaaQ13
import Derived.Test.YtkimilghfbgjmaaChecked
import Derived.KernelRfl

open List renaming cons_append → Yaj, getD_cons_succ → Yak, getD_cons_zero → Yal, getElem?_cons_succ → Yam, getElem?_cons_zero → Yan, getElem?_toArray → Yao, length_cons → Yap, length_nil → Yaq, nil_append → Yar, replicate → Yae, set_cons_succ → Yas, set_cons_zero → Yat
open Option renaming bind_some → Yau, map_some → Ya2
open Bool renaming false_eq_true → Yav
open Nat renaming zero_add → Yaw
namespace Go.Abs
variable {P : Program} {s : St}
theorem Zau (x : E) : ownD (.e x) = false := of_decide_eq_true rfl
theorem Ze5 : ownD Zaw = false := of_decide_eq_true rfl
theorem Zdv (sz : Nat) (es : List (List E)) : ownD (.osl false true sz es) = false := of_decide_eq_true rfl
theorem Zb5 (i off : Nat) : ownD (.ptr i off) = false := of_decide_eq_true rfl
theorem Zcp (f : Fn) (a b : List D) : ownD (.func f a b) = false := of_decide_eq_true rfl
theorem Zfi (i : Nat) : ownD (.map i) = false := of_decide_eq_true rfl
theorem Zkq (i o n : Nat) : ownD (.asl i o n) = false := of_decide_eq_true rfl
theorem Zm0 (cs : List E) (o : Nat) : ownD (.rptr cs o) = false := of_decide_eq_true rfl
theorem Zp4 (n : Nat) : ownD (.hdr n) = false := of_decide_eq_true rfl
theorem Zll (t : TypeId) (d : D) : ownD (.iface t d) = false := of_decide_eq_true rfl
theorem Zbu (cs : List D) : ownD (.agg cs) = cs.any own0 := rfl
theorem Zb7 (x : E) : own0 (.e x) = false := of_decide_eq_true rfl
theorem Zd5 (sz : Nat) (es : List (List E)) : own0 (.osl false true sz es) = false := of_decide_eq_true rfl
theorem Zm2 (n : Nat) : own0 (.hdr n) = false := of_decide_eq_true rfl
theorem Zaq : tks s [] = some ([], s) := rfl
theorem Zah {x : Operand} {xs : List Operand} : tks s (x :: xs) = match tk s x with
    | some (d, s1) => match tks s1 xs with
      | some (ds, s2) => some (d :: ds, s2)
      | none => none
    | none => none := rfl
theorem Zec : shs s [] = some ([], s) := rfl
theorem Zdg {x : Operand} {xs : List Operand} : shs s (x :: xs) = match sh s x with
    | some (d, s1) => match shs s1 xs with
      | some (ds, s2) => some (d :: ds, s2)
      | none => none
    | none => none := rfl
theorem Zgr : optO s none = some none := rfl
theorem Zgq {x : Operand} : optO s (some x) = (rd s x).map some := rfl
theorem Zcz {k : IntKind} {a b : Int} : Ziu .add k a b = some (.int k (k.wrap (a + b))) := rfl
theorem Zg1 {k : IntKind} {a b : Int} : Ziu .sub k a b = some (.int k (k.wrap (a - b))) := rfl
theorem Zj3 {k : IntKind} {a b : Int} : Ziu .mul k a b = some (.int k (k.wrap (a * b))) := rfl
theorem Zju {k : IntKind} {a b : Int} (h : b ≠ 0) : Ziu .quo k a b = some (.int k (k.wrap (a.tdiv b))) := by simp [Ziu, h]
theorem Zj2 {k : IntKind} {a b : Int} (h : b ≠ 0) : Ziu .rem k a b = some (.int k (a.tmod b)) := by simp [Ziu, h]
theorem Zie {k : IntKind} {a b : Int} : Ziu .and k a b = some (.int k (k.wrap (BitVec.ofInt k.bits a &&& BitVec.ofInt k.bits b).toNat)) := rfl
theorem Zki {k : IntKind} {a b : Int} : Ziu .or k a b = some (.int k (k.wrap (BitVec.ofInt k.bits a ||| BitVec.ofInt k.bits b).toNat)) := rfl
theorem Zhy {k : IntKind} {a b : Int} : Ziu .xor k a b = some (.int k (k.wrap (BitVec.ofInt k.bits a ^^^ BitVec.ofInt k.bits b).toNat)) := rfl
theorem Zay {k : IntKind} {a b : Int} : Ziu .eql k a b = some (.e (.bool (a == b))) := rfl
theorem Zdm {k : IntKind} {a b : Int} : Ziu .neq k a b = some (.e (.bool (a != b))) := rfl
theorem Zbs {k : IntKind} {a b : Int} : Ziu .lss k a b = some (.e (.bool (decide (a < b)))) := rfl
theorem Zf0 {k : IntKind} {a b : Int} : Ziu .leq k a b = some (.e (.bool (decide (a ≤ b)))) := rfl
theorem Zdr {k : IntKind} {a b : Int} : Ziu .gtr k a b = some (.e (.bool (decide (b < a)))) := rfl
theorem Zeb {k : IntKind} {a b : Int} : Ziu .geq k a b = some (.e (.bool (decide (b ≤ a)))) := rfl
theorem Zf4 {b : Bool} : unD .not (.e (.bool b)) = some (.e (.bool (!b))) := rfl
theorem Zmq {k : IntKind} {a : Int} : unD .neg (.e (.int k a)) = some (.e (.int k (k.wrap (0 - a)))) := rfl
theorem Zdc {t : TypeId} {k : IntKind} {a b : Int} {yc : Bool} : binD P .add t (.e (.int k a)) (.e (.int k b)) yc = Ziu .add k a b := by simp [binD]
theorem Zgn {t : TypeId} {k : IntKind} {a b : Int} {yc : Bool} : binD P .sub t (.e (.int k a)) (.e (.int k b)) yc = Ziu .sub k a b := by simp [binD]
theorem Zkh {t : TypeId} {k : IntKind} {a b : Int} {yc : Bool} : binD P .mul t (.e (.int k a)) (.e (.int k b)) yc = Ziu .mul k a b := by simp [binD]
theorem Zlb {t : TypeId} {k : IntKind} {a b : Int} {yc : Bool} : binD P .quo t (.e (.int k a)) (.e (.int k b)) yc = Ziu .quo k a b := by simp [binD]
theorem Zkg {t : TypeId} {k : IntKind} {a b : Int} {yc : Bool} : binD P .rem t (.e (.int k a)) (.e (.int k b)) yc = Ziu .rem k a b := by simp [binD]
theorem Zj9 {t : TypeId} {k : IntKind} {a b : Int} {yc : Bool} : binD P .and t (.e (.int k a)) (.e (.int k b)) yc = Ziu .and k a b := by simp [binD]
theorem Zmd {t : TypeId} {k : IntKind} {a b : Int} {yc : Bool} : binD P .or t (.e (.int k a)) (.e (.int k b)) yc = Ziu .or k a b := by simp [binD]
theorem Zj8 {t : TypeId} {k : IntKind} {a b : Int} {yc : Bool} : binD P .xor t (.e (.int k a)) (.e (.int k b)) yc = Ziu .xor k a b := by simp [binD]
theorem Zb6 {t : TypeId} {k : IntKind} {a b : Int} {yc : Bool} : binD P .eql t (.e (.int k a)) (.e (.int k b)) yc = Ziu .eql k a b := by simp [binD]
theorem Zem {t : TypeId} {k : IntKind} {a b : Int} {yc : Bool} : binD P .neq t (.e (.int k a)) (.e (.int k b)) yc = Ziu .neq k a b := by simp [binD]
theorem Zc6 {t : TypeId} {k : IntKind} {a b : Int} {yc : Bool} : binD P .lss t (.e (.int k a)) (.e (.int k b)) yc = Ziu .lss k a b := by simp [binD]
theorem Zfx {t : TypeId} {k : IntKind} {a b : Int} {yc : Bool} : binD P .leq t (.e (.int k a)) (.e (.int k b)) yc = Ziu .leq k a b := by simp [binD]
theorem Zeo {t : TypeId} {k : IntKind} {a b : Int} {yc : Bool} : binD P .gtr t (.e (.int k a)) (.e (.int k b)) yc = Ziu .gtr k a b := by simp [binD]
theorem Zf2 {t : TypeId} {k : IntKind} {a b : Int} {yc : Bool} : binD P .geq t (.e (.int k a)) (.e (.int k b)) yc = Ziu .geq k a b := by simp [binD]
theorem Znb {t : TypeId} {a b : ByteArray} {yc : Bool} : binD P .add t (.e (.str a)) (.e (.str b)) yc = strD .add a b := by simp [binD]
theorem Zkf {t : TypeId} {a b : ByteArray} {yc : Bool} : binD P .eql t (.e (.str a)) (.e (.str b)) yc = strD .eql a b := by simp [binD]
theorem Zla {t : TypeId} {a b : ByteArray} {yc : Bool} : binD P .neq t (.e (.str a)) (.e (.str b)) yc = strD .neq a b := by simp [binD]
theorem Zk7 {a b : ByteArray} : strD .eql a b = some (.e (.bool (a == b))) := rfl
theorem Zkz {a b : ByteArray} : strD .neq a b = some (.e (.bool (!(a == b)))) := rfl
theorem Zi5 {t : TypeId} {k k' : IntKind} {a b : Int} {yc : Bool} : binD P .shl t (.e (.int k a)) (.e (.int k' b)) yc = Zom .shl k a b := rfl
theorem Zgd {t : TypeId} {k k' : IntKind} {a b : Int} {yc : Bool} : binD P .shr t (.e (.int k a)) (.e (.int k' b)) yc = Zom .shr k a b := rfl
theorem Zgj {k : IntKind} {a b : Int} (h : ¬ b < 0) : Zom .shl k a b = some (.e (.int k (k.wrap (a * 2 ^ (min b.toNat k.bits))))) := by simp [Zom, h]
theorem Zev {k : IntKind} {a b : Int} (h : ¬ b < 0) : Zom .shr k a b = some (.e (.int k (a.fdiv (2 ^ (min b.toNat k.bits))))) := by simp [Zom, h]
theorem Zg3 {t : TypeId} {a b : Bool} {yc : Bool} (h : P.underlying t = some .bool) : binD P .eql t (.e (.bool a)) (.e (.bool b)) yc = some (.e (.bool (a == b))) := by simp [binD, eqT, h, eqB]
theorem Znc {t : TypeId} {a b : Bool} {yc : Bool} (h : P.underlying t = some .bool) : binD P .neq t (.e (.bool a)) (.e (.bool b)) yc = some (.e (.bool (!(a == b)))) := by simp [binD, eqT, h, eqB]
theorem Zd0 {ats : Array TypeId} {x : Operand} : Zge P .len ats [x] s = match rd s x, ats[0]? with
    | some d, some t => (len0 P t d s.h).map fun n => (.val (.int .i64 n), s)
    | _, _ => none := rfl
theorem Ze4 {ats : Array TypeId} {x y : Operand} : Zge P .append ats [x, y] s = match tk s x, ats[0]?, ats[1]? with
    | some (d, s1), some t, some ty =>
      match (match P.underlying ty with | some .string => some true | some (.slice _) => some false | _ => none) with
      | some str => match sh s1 y with
        | some (v, s2) => (Zfz P t d v str).map fun r => (.val r, s2)
        | none => none
      | none => none
    | _, _, _ => none := rfl
theorem Zpb {ats : Array TypeId} {x y : Operand} : Zge P .min ats [x, y] s = match rd s x, rd s y with
    | some a, some b => (min2 a b).map fun r => (.val r, s)
    | _, _ => none := rfl
theorem Zpc {ats : Array TypeId} {x y : Operand} : Zge P .max ats [x, y] s = match rd s x, rd s y with
    | some a, some b => (max2 a b).map fun r => (.val r, s)
    | _, _ => none := rfl
theorem Zd9 : tupD [] = Zaw := rfl
theorem Zav {d : D} : tupD [d] = d := rfl
theorem Zd2 {a b : D} : tupD [a, b] = .tup [a, b] := rfl
theorem Zeu {a b c : D} : tupD [a, b, c] = .tup [a, b, c] := rfl
theorem Zac : resD P s [] = some ([], s) := rfl
theorem Zal {t : Tmp} {rs : List ResultVar} : resD P s (.tmp t :: rs) = match tk s (.tmp t) with
    | some (d, s1) => match resD P s1 rs with
      | some (ds, s2) => some (d :: ds, s2)
      | none => none
    | none => none := rfl
theorem Zde {a : Tmp} {t : TypeId} {rs : List ResultVar} : resD P s (.cell a t :: rs) = match adOf (s.t.getD a Zaw) with
    | some ad => match Zn3 P s t ad true with
      | some (d, s1) => match resD P s1 rs with
        | some (ds, s2) => some (d :: ds, s2)
        | none => none
      | none => none
    | none => none := rfl
theorem Zad {fn : Func} {h0 : List O} {t : List D} {h : List O} : Zqa P fn h0 none t h = match resD P { t := t, d := [], r := .no, h := h } fn.results.toList with
    | some (ds, s2) => some (.val (tupD ds), gc h0.length h0 s2.h (tupD ds))
    | none => none := rfl
variable {fn : Func} {h h' : List O} {tl : List D}
theorem Zbr {n : Nat} {x : E} : Fit n (.e x) = True := eq_true (.e x)
theorem Zcy {n : Nat} {ex fu : Bool} {sz : Nat} {es : List (List E)} : Fit n (.osl ex fu sz es) = True := eq_true (.osl ex fu sz es)
theorem Zpa {n k : Nat} : Fit n (.hdr k) = True := eq_true (.hdr k)
theorem Zcx {n : Nat} {cs : List D} : Fit n (.tup cs) = ∀ d ∈ cs, Fit n d := propext ⟨fun h => by cases h with | tup _ h => exact h, fun h => .tup cs h⟩
theorem Zfl {n : Nat} {cs : List D} : Fit n (.agg cs) = ∀ d ∈ cs, Fit n d := propext ⟨fun h => by cases h with | agg _ h => exact h, fun h => .agg cs h⟩
theorem Zar {h : List O} {a : O} {l : List O} : Zbn (h ++ a :: l) h.length = Zbn (a :: l) 0 := by simp [Zbn]
theorem Zbe {h l : List O} {j : Nat} : Zbn (h ++ l) (h.length + j) = Zbn l j := by simp [Zbn, List.getElem?_append_right]
theorem Zbk {cs : List D} {l : List O} : Zbn (.cells cs :: l) 0 = some cs := rfl
theorem Zcr {o : O} {l : List O} {j : Nat} : Zbn (o :: l) (j + 1) = Zbn l j := by simp [Zbn]
theorem Zet {h l : List O} {a o : O} : (h ++ a :: l).set h.length o = h ++ o :: l := by simp
theorem Zdh {h l : List O} {j : Nat} {o : O} : (h ++ l).set (h.length + j) o = h ++ l.set j o := by rw [List.set_append_right _ _ (by omega)]; simp
theorem hlen {h l : List O} : (h ++ l).length = h.length + l.length := List.length_append
theorem Zin {h l : List O} {o : O} : (h ++ l) ++ [o] = h ++ (l ++ [o]) := List.append_assoc _ _ _
theorem hget0 {h : List O} {a : O} {l : List O} : (h ++ a :: l)[h.length]? = some a := by simp
theorem hgetn {h l : List O} {j : Nat} : (h ++ l)[h.length + j]? = l[j]? := by simp [List.getElem?_append_right]
theorem Za8 {i o : Nat} : adOf (.ptr i o) = some (.ob i o) := rfl
theorem Ze3 {cs : List E} {o : Nat} : adOf (.rptr cs o) = some (.ro cs o) := rfl
theorem Zba {i o : Nat} : adD (.ob i o) = .ptr i o := rfl
theorem Zta {cs : List E} {o : Nat} : adD (.ro cs o) = .rptr cs o := rfl
theorem Zb9 {i o n : Nat} : (Ad.ob i o).add n = .ob i (o + n) := rfl
theorem Zt8 {cs : List E} {o n : Nat} : (Ad.ro cs o).add n = .ro cs (o + n) := rfl
theorem Zb1 {cs : List D} {off : Nat} {new : List D} : Zfg cs off new = cs.take off ++ new ++ cs.drop (off + new.length) := rfl
theorem Zb0 {cs : List D} : cellsOf (.agg cs) = cs := rfl
theorem Zc9 {x : E} : cellsOf (.e x) = [.e x] := rfl
theorem Zdl {ex fu : Bool} {sz : Nat} {es : List (List E)} : cellsOf (.osl ex fu sz es) = [.osl ex fu sz es] := rfl
theorem Zhw {i o : Nat} : cellsOf (.ptr i o) = [.ptr i o] := rfl
theorem Zjf {i : Nat} : cellsOf (.map i) = [.map i] := rfl
theorem Zid {f : Fn} {a b : List D} : cellsOf (.func f a b) = [.func f a b] := rfl
theorem Zb8 {cs : List D} : notTup (.agg cs) = true := of_decide_eq_true rfl
theorem Zcl {x : E} : notTup (.e x) = true := of_decide_eq_true rfl
theorem Zct {ex fu : Bool} {sz : Nat} {es : List (List E)} : notTup (.osl ex fu sz es) = true := of_decide_eq_true rfl
theorem Zij {i o : Nat} : notTup (.ptr i o) = true := of_decide_eq_true rfl
theorem Zk0 {i : Nat} : notTup (.map i) = true := of_decide_eq_true rfl
theorem Zjb {f : Fn} {a b : List D} : notTup (.func f a b) = true := of_decide_eq_true rfl
theorem Zbt {tl : List D} {df : List (FuncId × List D)} {r : Rc} {H : List O} {t : TypeId} {i off : Nat} {b : Bool} : Zn3 P ⟨tl, df, r, H⟩ t (.ob i off) b =
    match szOf P t, aggT P t with
    | some n, some ag => match Zbn H i with
      | some cs => if off + n ≤ cs.length then
          match ag with
          | true => if ((cs.drop off).take n).any own0 then
                some (.agg (if b then (cs.drop off).take n else ((cs.drop off).take n).map shr0), ⟨tl, df, r, H.set i (.cells (Zfg cs off (((cs.drop off).take n).map (if b then Zh7 else kep0))))⟩)
              else some (.agg ((cs.drop off).take n), ⟨tl, df, r, H⟩)
          | false => match cs[off]? with
            | some d => if own0 d then some (if b then d else shr0 d, ⟨tl, df, r, H.set i (.cells (Zfg cs off [if b then Zh7 d else kep0 d]))⟩) else some (d, ⟨tl, df, r, H⟩)
            | none => none
        else none
      | none => none
    | _, _ => none := by
  simp only [Zn3]
  cases szOf P t with
  | none => rfl
  | some n =>
    cases aggT P t with
    | none => rfl
    | some ag => rfl
theorem Zj0 {s : St} {t : TypeId} {cs : List E} {off : Nat} {b : Bool} : Zn3 P s t (.ro cs off) b =
    match szOf P t, aggT P t with
    | some n, some ag => if off + n ≤ cs.length then
        match ag with
        | true => some (.agg (((cs.drop off).take n).map .e), s)
        | false => match cs[off]? with
          | some x => some (.e x, s)
          | none => none
      else none
    | _, _ => none := by
  simp only [Zn3]
  cases szOf P t with
  | none => rfl
  | some n =>
    cases aggT P t with
    | none => rfl
    | some ag => rfl
theorem Zco {tl : List D} {df : List (FuncId × List D)} {r : Rc} {H : List O} {t : TypeId} {i off : Nat} {d : D} : Zwj P ⟨tl, df, r, H⟩ t (.ob i off) d =
    match szOf P t with
    | some n => if (cellsOf d).length = n ∧ notTup d = true then
        match Zbn H i with
        | some cs => if off + n ≤ cs.length then some ⟨tl, df, r, H.set i (.cells (Zfg cs off (cellsOf d)))⟩ else none
        | none => none
      else none
    | none => none := rfl
theorem Zk1 {t e : TypeId} {x : D} {es : List (List E)} {h : List O} (hu : P.underlying t = some (.slice e)) (hs : slOf x = some es) : len0 P t x h = some es.length := by
  unfold len0
  rw [hu]
  cases x with
  | e v => cases v <;> simp_all [slOf]
  | osl => simp_all [slOf]
  | _ => simp [slOf] at hs
theorem Zhj {t : TypeId} {b : ByteArray} {h : List O} (hu : P.underlying t = some .string) : len0 P t (.e (.str b)) h = some b.size := by unfold len0; rw [hu]
theorem len0_asl {t e : TypeId} {i o n : Nat} {h : List O} (hu : P.underlying t = some (.slice e)) : len0 P t (.asl i o n) h = some n := by unfold len0; rw [hu]
theorem len0_hdr {t e : TypeId} {n : Nat} {h : List O} (hu : P.underlying t = some (.slice e)) : len0 P t (.hdr n) h = some n := by unfold len0; rw [hu]
theorem Zkw {es : List (List E)} : slOf (.e (.sl es)) = some es := rfl
theorem Zgg {ex fu : Bool} {sz : Nat} {es : List (List E)} : slOf (.osl ex fu sz es) = some es := rfl
structure Rd (d : D) (es : List (List E)) : Prop where
  own : own0 d = false
  sl : slOf d = some es
theorem Rd.ownD {d : D} {es : List (List E)} (h : Rd d es) : ownD d = false := by
  have h1 := h.own; have h2 := h.sl
  cases d <;> simp_all [Abs.ownD, ownA, slOf]
theorem Rd.e {es : List (List E)} : Rd (.e (.sl es)) es := ⟨rfl, rfl⟩
theorem Rd.osl {sz : Nat} {es : List (List E)} : Rd (.osl false true sz es) es := ⟨rfl, rfl⟩
theorem Rd.fit {d : D} {es : List (List E)} (h : Rd d es) (n : Nat) : Fit n d := by
  have h2 := h.sl
  cases d with
  | e x => exact .e x
  | osl => exact .osl _ _ _ _
  | _ => simp [slOf] at h2
theorem Rd.cells {d : D} {es : List (List E)} (h : Rd d es) : cellsOf d = [d] := by
  have h2 := h.sl
  cases d <;> simp_all [slOf, cellsOf]
theorem Rd.notTup {d : D} {es : List (List E)} (h : Rd d es) : notTup d = true := by
  have h2 := h.sl
  cases d <;> simp_all [slOf, Abs.notTup]
theorem Zxc {t e : TypeId} {x : D} {es : List (List E)} {k : IntKind} {i : Int} {sz : Nat} {r : List E} (hu : P.underlying t = some (.slice e)) (hz : szOf P e = some sz) (hs : slOf x = some es) (h0 : 0 ≤ i) (hr : es[i.toNat]? = some r) (hl : r.length = sz) (hp : 0 < sz) :
    Zeh P t x (.e (.int k i)) = some (.rptr r 0) := by
  unfold Zeh
  rw [hu]
  simp only [hz]
  cases x with
  | e v => simp only [hs, hr]; simp [h0, hl, hp]
  | osl ex fu sz' es' => simp only [hs, hr]; simp [h0, hl, hp]
  | _ => simp [slOf] at hs
def mkT : List (Option D) → List D → Nat → List D
  | [], _, _ => []
  | some d :: p, ys, i => d :: mkT p ys (i + 1)
  | none :: p, ys, i => ys.getD i Zaw :: mkT p ys (i + 1)
theorem Zd8 {pat : List (Option D)} {H : List O} {df : List (FuncId × List D)} {r : Rc} {s : St} (h1 : s.d = df) (h2 : s.r = r) (h3 : s.h = H) (h4 : mkT pat s.t 0 = s.t) : ∃ ys, s = ⟨mkT pat ys 0, df, r, H⟩ :=
  ⟨s.t, by rw [h4]; cases s; simp_all⟩
section
variable {pr : FuncId → List D → Option D} {cv : FuncId → Nat → List Cv} {β : Type} {k : X × St → Option β} {all : Array Oper} {hs : List (Nat × List O)} {ag : List Again} {rest : List Todo} {i bf : Nat} {nm mv : List Tmp}
noncomputable def kdV (P : Program) (pr : FuncId → List D → Option D) (cv : FuncId → Nat → List Cv) (all : Array Oper) (rest : List Todo) (hs : List (Nat × List O)) (ag : List Again) (dst : Option Tmp) (s : St) (k : X × St → Option β) (v : Option D) : Option β :=
  match v with
  | some d => kd P pr cv all rest hs ag (s.put dst d) k
  | none => none
theorem Zc2 {dst : Tmp} {d : D} {tl : List D} {df : List (FuncId × List D)} {r : Rc} {h : List O} : kdV P pr cv all rest hs ag (some dst) ⟨tl, df, r, h⟩ k (some d) = kd P pr cv all rest hs ag ⟨tl.set dst d, df, r, h⟩ k := rfl
noncomputable def kdL (P : Program) (pr : FuncId → List D → Option D) (cv : FuncId → Nat → List Cv) (all : Array Oper) (rest : List Todo) (hs : List (Nat × List O)) (ag : List Again) (s : St) (k : X × St → Option β) (o : Option Oper) : Option β :=
  match o with
  | some o => if want all o s then kdV P pr cv all rest hs ag o.dst s k (Zee P o s) else kd P pr cv all rest hs ag (s.put o.dst Zaw) k
  | none => none
theorem kd_l : kd P pr cv all (⟨i, false, false, bf, nm, mv⟩ :: rest) hs ag s k = kdL P pr cv all rest hs ag s k all[i]? := by
  cases ho : all[i]? with
  | none => unfold kd; rw [Zgu]; simp [ho, kdL]
  | some o =>
    cases hw : want all o s with
    | false => rw [Zyw ho hw]; simp [kdL, hw]
    | true =>
      cases hx : Zee P o s with
      | none => unfold kd; rw [Zgu]; simp [ho, hw, hx, kdL, kdV]
      | some d => rw [kd_light ho hw hx]; simp [kdL, hw, kdV, hx]
theorem Zc3 {dst : Option Tmp} {op : Op} {ty : TypeId} {pos : String} {af : Array Edge} : kdL P pr cv all rest hs ag s k (some ⟨dst, op, ty, pos, af, none⟩) = kdV P pr cv all rest hs ag dst s k (Zee P ⟨dst, op, ty, pos, af, none⟩ s) := by simp [kdL, want]
noncomputable def kdR (P : Program) (pr : FuncId → List D → Option D) (cv : FuncId → Nat → List Cv) (all : Array Oper) (i bf : Nat) (rest : List Todo) (hs : List (Nat × List O)) (ag : List Again) (o : Oper) (s : St) (k : X × St → Option β) (v : Option D) : Option β :=
  match v with
  | some d => open Classical in if Zjn P o bf s.t d hs then kd P pr cv all rest hs ({ i := i, o := o, t := s.t, d := d } :: ag) (s.put o.dst d) k else none
  | none => none
noncomputable def kdRO (P : Program) (pr : FuncId → List D → Option D) (cv : FuncId → Nat → List Cv) (all : Array Oper) (i bf : Nat) (rest : List Todo) (hs : List (Nat × List O)) (ag : List Again) (s : St) (k : X × St → Option β) (o : Option Oper) : Option β :=
  match o with
  | some o => if want all o s then kdR P pr cv all i bf rest hs ag o s k (Zee P o s) else kd P pr cv all rest hs ag (s.put o.dst Zaw) k
  | none => none
theorem kd_r : kd P pr cv all (⟨i, false, true, bf, nm, mv⟩ :: rest) hs ag s k = kdRO P pr cv all i bf rest hs ag s k all[i]? := by
  cases ho : all[i]? with
  | none => unfold kd; rw [Zgu]; simp [ho, kdRO]
  | some o =>
    cases hw : want all o s with
    | false => rw [Zyw ho hw]; simp [kdRO, hw]
    | true =>
      simp only [kdRO, hw, if_true]
      cases hx : Zee P o s with
      | none => unfold kd; rw [Zgu]; simp [ho, hw, hx, kdR]
      | some d =>
        by_cases hb : Zjn P o bf s.t d hs
        · rw [kd_read ho hw hx hb]; simp [kdR, hb]
        · unfold kd; rw [Zgu]; simp [ho, hw, hx, kdR, hb]
theorem Zc4 {dst : Option Tmp} {op : Op} {ty : TypeId} {pos : String} {af : Array Edge} : kdRO P pr cv all i bf rest hs ag s k (some ⟨dst, op, ty, pos, af, none⟩) = kdR P pr cv all i bf rest hs ag ⟨dst, op, ty, pos, af, none⟩ s k (Zee P ⟨dst, op, ty, pos, af, none⟩ s) := by simp [kdRO, want]
theorem Zdo {o : Oper} {d : D} {dst : Tmp} {tl : List D} {df : List (FuncId × List D)} {r : Rc} {h : List O} (hd : o.dst = some dst) : kdR P pr cv all i bf rest [] ag o ⟨tl, df, r, h⟩ k (some d) = kd P pr cv all rest [] ({ i := i, o := o, t := tl, d := d } :: ag) ⟨tl.set dst d, df, r, h⟩ k := by
  simp [kdR, Zjn, St.put, hd]
end
def sealD (d : D) : D := match d with | .tup vs => .tup vs | d => kep d
theorem Zc7 {d : D} (h : ownD d = false) : sealD d = d := by
  unfold sealD
  split
  · rfl
  · rename_i hn
    exact (Zvr h (by cases d <;> simp_all [notTup])).1
theorem Zbc : Zh5 [] s = s := rfl
theorem Zbv {dst : Option Tmp} {t : Tmp} {ty : TypeId} {pos : String} {af : Array Edge} {g : Option (Nat × Bool)} {l : List Oper} {tl : List D} {df : List (FuncId × List D)} {r : Rc} {h : List O} :
    Zh5 (⟨dst, .move (.tmp t), ty, pos, af, g⟩ :: l) ⟨tl, df, r, h⟩ = Zh5 l ⟨tl.set t (sealD (tl.getD t Zaw)), df, r, h⟩ := by
  simp only [Zh5, List.foldl_cons]
  congr 1
  generalize hv : tl.getD t Zaw = v
  cases v with
  | tup vs =>
    have := Zm9 tl t
    rw [hv] at this
    simp only [sealD, this]
  | _ => rfl
theorem Zaz {dst : Option Tmp} {op : Op} {ty : TypeId} {pos : String} {af : Array Edge} {g : Option (Nat × Bool)} {l : List Oper} (h : ∀ t, op ≠ .move (.tmp t)) : Zh5 (⟨dst, op, ty, pos, af, g⟩ :: l) s = Zh5 l s := by
  cases op with
  | move x =>
    cases x with
    | tmp t => exact absurd rfl (h t)
    | _ => rfl
  | _ => rfl
theorem Zd1 {dst : Option Tmp} {t : Tmp} {ty : TypeId} {pos : String} {af : Array Edge} {g : Option (Nat × Bool)} {tl : List D} {df : List (FuncId × List D)} {r : Rc} {h : List O} (ho : ownD (tl.getD t Zaw) = false) :
    Zee P ⟨dst, .move (.tmp t), ty, pos, af, g⟩ ⟨tl, df, r, h⟩ = some (tl.getD t Zaw) := by
  have hs : sh ⟨tl, df, r, h⟩ (.tmp t) = some (tl.getD t Zaw, ⟨tl, df, r, h⟩) := Zaf ho
  have key : cpD (tl.getD t Zaw) = some (tl.getD t Zaw) := by
    generalize tl.getD t Zaw = v at ho
    unfold cpD
    have he : excD v = false := by
      cases v with
      | osl ex fu sz es => simp [Abs.ownD, ownA, own0] at ho; simp [excD, exc0, ho.1]
      | agg cs =>
        simp only [Abs.ownD, ownA, List.any_eq_false] at ho
        simp only [excD, List.any_eq_false]
        intro x hx
        have := ho x hx
        cases x <;> simp_all [own0, exc0]
      | tup vs => simpa [excD] using ho
      | _ => rfl
    rw [he]
    simp only [Yav, if_false]
    split
    · rfl
    · rename_i hn
      rw [Zwm ho (by cases v <;> simp_all [notTup])]
  exact key
theorem Zls {dst : Option Tmp} {v : Value} {ty : TypeId} {pos : String} {af : Array Edge} {g : Option (Nat × Bool)} : Zee P ⟨dst, .move (.const v), ty, pos, af, g⟩ s = ofV v := rfl
def Zxj (P : Program) (s : St) (t : TypeId) (ad : Ad) : Option D :=
  match ad, szOf P t, aggT P t with
      | .ro _ _, _, _ => (Zn3 P s t ad false).map (·.1)
      | .ob i off, some n, some ag => match Zbn s.h i with
        | some cs => if off + n ≤ cs.length then
            match ag with
            | true => let ds := (cs.drop off).take n; if ds.any exc0 then none else some (.agg (ds.map shr0))
            | false => match cs[off]? with
              | some d => if exc0 d then none else some (shr0 d)
              | none => none
          else none
        | none => none
      | _, _, _ => none
theorem Zcb {dst : Option Tmp} {t : TypeId} {a : Operand} {ty : TypeId} {pos : String} {af : Array Edge} {g : Option (Nat × Bool)} :
    Zee P ⟨dst, .load t a, ty, pos, af, g⟩ s = match (rd s a).bind adOf with
      | some ad => Zxj P s t ad
      | none => none := rfl
theorem Zlr {t : TypeId} {cs : List E} {off : Nat} : Zxj P s t (.ro cs off) = (Zn3 P s t (.ro cs off) false).map (·.1) := by
  unfold Zxj
  cases szOf P t <;> cases aggT P t <;> rfl
theorem Zcu {tl : List D} {df : List (FuncId × List D)} {r : Rc} {H : List O} {t : TypeId} {i off : Nat} : Zxj P ⟨tl, df, r, H⟩ t (.ob i off) = match szOf P t, aggT P t with
      | some n, some ag => match Zbn H i with
        | some cs => if off + n ≤ cs.length then
            match ag with
            | true => if ((cs.drop off).take n).any exc0 then none else some (.agg (((cs.drop off).take n).map shr0))
            | false => match cs[off]? with
              | some d => if exc0 d then none else some (shr0 d)
              | none => none
          else none
        | none => none
      | _, _ => none := by
  unfold Zxj
  cases szOf P t with
  | none => rfl
  | some n =>
    cases aggT P t with
    | none => rfl
    | some ag => rfl
theorem Zg6 {x : E} : exc0 (.e x) = false := of_decide_eq_true rfl
theorem Zjs {fu : Bool} {sz : Nat} {es : List (List E)} : exc0 (.osl false fu sz es) = false := of_decide_eq_true rfl
theorem Zfm {x : E} : shr0 (.e x) = .e x := rfl
theorem Zjm {ex : Bool} {sz : Nat} {es : List (List E)} : shr0 (.osl ex true sz es) = .osl false true sz es := rfl
theorem Zfe {ex : Bool} {sz : Nat} {es : List (List E)} : shr0 (.osl ex false sz es) = .e (.sl es) := rfl
theorem Rd.exc {d : D} {es : List (List E)} (h : Rd d es) : exc0 d = false := by
  have h1 := h.own
  cases d <;> simp_all [own0, exc0]
theorem Rd.shr {d : D} {es : List (List E)} (h : Rd d es) : shr0 d = d := by
  have h1 := h.own
  cases d <;> simp_all [own0, shr0]
def Zgw : Op → Bool
  | .pick _ _ _ => true
  | .build _ _ => true
  | .buildSlice _ _ _ => true
  | .nilCheck _ => true
  | .binOp _ _ _ _ _ => true
  | .unOp _ _ _ => true
  | .convert _ _ _ => true
  | .makeInterface _ _ => true
  | .makeFunc _ _ _ => true
  | .makeSlice _ _ _ => true
  | .slice _ _ _ _ _ => true
  | .fieldAddr _ _ _ => true
  | .field _ _ _ => true
  | .indexAddr _ _ _ => true
  | .index _ _ _ => true
  | .lookup _ _ _ _ => true
  | .typeAssert _ _ _ _ => true
  | .call c => match c.callee with
    | .builtin .len => true
    | _ => false
  | _ => false
theorem Zi1 {a b c : Operand} : Zgw (.pick a b c) = true := of_decide_eq_true rfl
theorem Zm3 {t : TypeId} {ps : Array (Nat × Operand)} : Zgw (.build t ps) = true := of_decide_eq_true rfl
theorem Zgv {t : TypeId} {n : Nat} {ps : Array (Nat × Operand)} : Zgw (.buildSlice t n ps) = true := of_decide_eq_true rfl
theorem Zdt {x : Operand} : Zgw (.nilCheck x) = true := of_decide_eq_true rfl
theorem Zgk {op : BinOp} {t y : TypeId} {a b : Operand} : Zgw (.binOp op t a b y) = true := of_decide_eq_true rfl
theorem Zma {op : UnOp} {t : TypeId} {a : Operand} : Zgw (.unOp op t a) = true := of_decide_eq_true rfl
theorem Zhz {t u : TypeId} {a : Operand} : Zgw (.convert t u a) = true := of_decide_eq_true rfl
theorem Zgp {t : TypeId} {a : Operand} : Zgw (.makeInterface t a) = true := of_decide_eq_true rfl
theorem Zjc {f : Fn} {a b : Array Operand} : Zgw (.makeFunc f a b) = true := of_decide_eq_true rfl
theorem Zkb {t : TypeId} {x : Operand} {a b c : Option Operand} : Zgw (.slice t x a b c) = true := of_decide_eq_true rfl
theorem Zbp {t : TypeId} {x : Operand} {f : Nat} : Zgw (.fieldAddr t x f) = true := of_decide_eq_true rfl
theorem Zn5 {t : TypeId} {x : Operand} {f : Nat} : Zgw (.field t x f) = true := of_decide_eq_true rfl
theorem Zg9 {t : TypeId} {x y : Operand} : Zgw (.indexAddr t x y) = true := of_decide_eq_true rfl
theorem Zn4 {t : TypeId} {x y : Operand} : Zgw (.index t x y) = true := of_decide_eq_true rfl
theorem Ze1 {t : TypeId} {x y : Operand} {b : Bool} : Zgw (.lookup t x y b) = true := of_decide_eq_true rfl
theorem Zr9 {ats : Array TypeId} {args : Array Operand} : Zgw (.call { callee := .builtin .len, args := args, argTypes := ats }) = true := of_decide_eq_true rfl
theorem Zhg {x : Operand} {a b : TypeId} {c : Bool} : Zgw (.typeAssert x a b c) = true := of_decide_eq_true rfl
def outV (r : Option (Out × St)) : Option D :=
  match r with
  | some (.val d, _) => some d
  | _ => none
theorem Zby {d : D} : outV (some (.val d, s)) = some d := rfl
theorem exL_gen' {o : Oper} (h : Zgw o.op = true) (ho : o.op.operands.toList.any (Zym s) = false) : Zee P o s = outV (exOp P [] o s) := by
  have hh : heavy o.op = false := by
    cases hop : o.op <;> simp_all [Zgw, heavy]
    rename_i c
    cases hc : c.callee <;> simp_all []
    rename_i b; cases b <;> simp_all
  unfold Zee
  split
  · rename_i t hop; simp [hop, Zgw] at h
  · rename_i t a hop; simp [hop, Zgw] at h
  · rename_i x _ hop; simp [hop, Zgw] at h
  · rename_i x i hop; simp [hop, Zgw] at h
  · rw [hh, ho]
    simp only [Yav, if_false]
    unfold outV
    rfl
theorem Zcv {dst : Option Tmp} {op : Op} {ty : TypeId} {pos : String} {af : Array Edge} {g : Option (Nat × Bool)} (h : Zgw op = true) (ho : op.operands.toList.any (Zym s) = false) :
    Zee P ⟨dst, op, ty, pos, af, g⟩ s = outV (exOp P [] ⟨dst, op, ty, pos, af, g⟩ s) := exL_gen' h ho
theorem Zbx {tl : List D} {df : List (FuncId × List D)} {r : Rc} {h : List O} {t : Tmp} : Zym ⟨tl, df, r, h⟩ (.tmp t) = ownD (tl.getD t Zaw) := rfl
theorem Zdz {v : Value} : Zym s (.const v) = false := rfl
theorem Zjy {f : FuncId} : Zym s (.func f) = false := rfl
end Go.Abs
namespace Go.Abs
open Go Go.Proofs
theorem sz3 : szOf Try.prog 3 = some 1 := by kernel_rfl
theorem ag3 : aggT Try.prog 3 = some false := by kernel_rfl
theorem zo3 : Zhb Try.prog 3 = some (.e (.int .i64 0)) := by kernel_rfl
theorem by3 : Zm6 Try.prog 3 = some 8 := by kernel_rfl
theorem sz4 : szOf Try.prog 4 = some 1 := by kernel_rfl
theorem ag4 : aggT Try.prog 4 = some false := by kernel_rfl
theorem zo4 : Zhb Try.prog 4 = some (.e (.bool false)) := by kernel_rfl
theorem sz5 : szOf Try.prog 5 = some 1 := by kernel_rfl
theorem ag5 : aggT Try.prog 5 = some false := by kernel_rfl
theorem zo5 : Zhb Try.prog 5 = some (.e (.int .u8 0)) := by kernel_rfl
theorem by5 : Zm6 Try.prog 5 = some 1 := by kernel_rfl
theorem sz9 : szOf Try.prog 9 = some 1 := by kernel_rfl
theorem ag9 : aggT Try.prog 9 = some false := by kernel_rfl
theorem sz22 : szOf Try.prog 22 = some 1 := by kernel_rfl
theorem ag22 : aggT Try.prog 22 = some false := by kernel_rfl
theorem el22 : Zw3 Try.prog 22 = some 3 := by kernel_rfl
theorem sz24 : szOf Try.prog 24 = some 4 := by kernel_rfl
theorem ag24 : aggT Try.prog 24 = some true := by kernel_rfl
theorem zo24 : Zhb Try.prog 24 = some (.agg [.e (.str { data := #[] }), .e (.int .i64 0), .e (.int .i64 0), .e (.bool false)]) := by kernel_rfl
theorem st24 : Zlv Try.prog 24 = some [{ name := "Key", type := 9, offset := 0, embedded := false, tag := "", pkgPath := "", byteOffset := 0 }, { name := "Value", type := 3, offset := 1, embedded := false, tag := "", pkgPath := "", byteOffset := 16 }, { name := "Version", type := 3, offset := 2, embedded := false, tag := "", pkgPath := "", byteOffset := 24 }, { name := "Gone", type := 4, offset := 3, embedded := false, tag := "", pkgPath := "", byteOffset := 32 }] := by kernel_rfl
theorem sz25 : szOf Try.prog 25 = some 1 := by kernel_rfl
theorem ag25 : aggT Try.prog 25 = some false := by kernel_rfl
theorem zo25 : Zhb Try.prog 25 = some (.e (.int .i64 0)) := by kernel_rfl
theorem sz27 : szOf Try.prog 27 = some 15 := by kernel_rfl
theorem ag27 : aggT Try.prog 27 = some true := by kernel_rfl
theorem zo27 : Zhb Try.prog 27 = some (.agg [.e (.int .u8 0), .e (.int .i64 0), .e (.int .i64 0), .e (.int .i64 0), .e (.int .i64 0), .e (.bool false), .e (.bool false), .e (.int .i64 0), .e (.int .i64 0), .osl false true 0 [], .e (.str { data := #[] }), .e (.int .i64 0), .e (.int .i64 0), .e (.bool false), .e (.int .i64 0)]) := by kernel_rfl
theorem st27 : Zlv Try.prog 27 = some [{ name := "Kind", type := 5, offset := 0, embedded := false, tag := "", pkgPath := "", byteOffset := 0 }, { name := "Call", type := 3, offset := 1, embedded := false, tag := "", pkgPath := "", byteOffset := 8 }, { name := "From", type := 3, offset := 2, embedded := false, tag := "", pkgPath := "", byteOffset := 16 }, { name := "To", type := 3, offset := 3, embedded := false, tag := "", pkgPath := "", byteOffset := 24 }, { name := "Key", type := 3, offset := 4, embedded := false, tag := "", pkgPath := "", byteOffset := 32 }, { name := "Slow", type := 4, offset := 5, embedded := false, tag := "", pkgPath := "", byteOffset := 40 }, { name := "Done", type := 4, offset := 6, embedded := false, tag := "", pkgPath := "", byteOffset := 41 }, { name := "Place", type := 3, offset := 7, embedded := false, tag := "", pkgPath := "", byteOffset := 48 }, { name := "Pred", type := 3, offset := 8, embedded := false, tag := "", pkgPath := "", byteOffset := 56 }, { name := "List", type := 22, offset := 9, embedded := false, tag := "", pkgPath := "", byteOffset := 64 }, { name := "Item", type := 24, offset := 10, embedded := false, tag := "", pkgPath := "", byteOffset := 88 }, { name := "Code", type := 25, offset := 14, embedded := false, tag := "", pkgPath := "", byteOffset := 128 }] := by kernel_rfl
theorem sz28 : szOf Try.prog 28 = some 1 := by kernel_rfl
theorem ag28 : aggT Try.prog 28 = some false := by kernel_rfl
theorem zo28 : Zhb Try.prog 28 = some (.e (.int .u32 0)) := by kernel_rfl
theorem sz31 : szOf Try.prog 31 = some 1 := by kernel_rfl
theorem ag31 : aggT Try.prog 31 = some false := by kernel_rfl
theorem zo31 : Zhb Try.prog 31 = some (.osl false true 0 []) := by kernel_rfl
theorem el31 : Zw3 Try.prog 31 = some 5 := by kernel_rfl
theorem st49 : Zlv Try.prog 49 = some [{ name := "b", type := 31, offset := 0, embedded := false, tag := "", pkgPath := "garland/wire", byteOffset := 0 }] := by kernel_rfl
theorem zo51 : Zhb Try.prog 51 = some (.e .nilfn) := by kernel_rfl
theorem mp52 : mapT Try.prog 52 = some (5, 51) := by kernel_rfl
theorem sz56 : szOf Try.prog 56 = some 1 := by kernel_rfl
theorem ag56 : aggT Try.prog 56 = some false := by kernel_rfl
theorem zo58 : Zhb Try.prog 58 = some (.agg [.osl false true 0 []]) := by kernel_rfl
theorem st58 : Zlv Try.prog 58 = some [{ name := "b", type := 31, offset := 0, embedded := false, tag := "", pkgPath := "garland/wire", byteOffset := 0 }] := by kernel_rfl
theorem zo59 : Zhb Try.prog 59 = some (.agg [.e (.int .i64 0), .e (.int .i64 0), .e (.int .i64 0), .e (.int .i64 0)]) := by kernel_rfl
theorem zo64 : Zhb Try.prog 64 = some (.e .nilfn) := by kernel_rfl
theorem mp65 : mapT Try.prog 65 = some (5, 64) := by kernel_rfl
theorem sz67 : szOf Try.prog 67 = some 1 := by kernel_rfl
theorem ag67 : aggT Try.prog 67 = some false := by kernel_rfl
theorem Zxl : Zw3 Try.prog 105 = some 31 := by kernel_rfl
end Go.Abs
namespace Go.Abs
open Go Go.Proofs
def wpr (f : FuncId) (args : List D) : Option D :=
  if f = 31 then (match args with
    | [d] => if ownD d then none else (match slOf d with
      | some es => if (Zi7 es).isSome && decide (es.length ≤ 1073741824) then some (.osl true false 1 es) else none
      | none => none)
    | _ => none)
  else if f = 94 then (match args with
    | [.osl false true 0 [], .e (.int .i64 n)] => if 0 ≤ n ∧ n ≤ 1073741824 then some (.osl true false 1 []) else none
    | _ => none)
  else none
def wcv (f : FuncId) (id : Nat) : List Cv :=
  if f = 47 then (if id = 8 then [.opnC 4] else if id = 9 then [.shutC 4] else []) else if f = 19 then (if id = 5 then [.kp 5] else []) else if f = 3 then (if id = 13 then [.opn 14] else if id = 18 then [.shut 14] else []) else []
noncomputable abbrev wc (f : FuncId) (args : List D) (h : List O) : Option (Out × List O) := call Try.prog wpr wcv (.fn f) args h
def Zfc (n : Int) : Bool := decide (0 ≤ n) && decide (n < 65536)
def Zn8 (n : Int) : Bool := decide (0 ≤ n) && decide (n ≤ 1048576)
def Zo0 (s : ByteArray) : Bool := (!(s == { data := #[] })) && decide ((s.size : Int) ≤ 20)
structure Msg where
  kind : Int
  call : Int
  frm : Int
  to : Int
  key : Int
  slow : Bool
  done : Bool
  place : Int
  pred : Int
  list : List Int
  ikey : ByteArray
  ival : Int
  iver : Int
  gone : Bool
  code : Int
def isE (l : List Int) : List (List E) := l.map fun n => [.int .i64 n]
def Msg.cs (m : Msg) (l : D) : List D :=
  [.int .u8 m.kind, .int .i64 m.call, .int .i64 m.frm, .int .i64 m.to, .int .i64 m.key, .bool m.slow, .bool m.done, .int .i64 m.place, .int .i64 m.pred, l, .str m.ikey, .int .i64 m.ival, .int .i64 m.iver, .bool m.gone, .int .i64 m.code]
def asks (k : Int) : Bool := decide (1 ≤ k) && decide (k ≤ 6)
set_option maxRecDepth 10000
theorem w42 (n : Int) (h : List O) : wc 42 [.int .i64 n] h = some (.val (.bool (Zfc n)), h) := by
  have hcv : ∀ i, wcv 42 i = [] := fun _ => rfl
  have hres : Try.f42.results.toList = [ResultVar.tmp 2] := rfl
  rw [wc, Zbm rfl Try.func42 rfl]
  by_cases h1 : 0 ≤ n
  · simp only [Zbj, Yap, Yaq, Nat.reduceAdd, Nat.reduceSub, Yae, Yaj, Yar, Zai, Zb2, Za3, Zae, Zan, Zas, Za9, Zch, Yao, Yam, Yan, Yau, Nat.reduceLT, ne_eq, reduceCtorEq, not_false_eq_true, implies_true, Ya2, Yas, Yat, Yak, Yal, Zau, ↓reduceIte, Za4, Za0, Za6, Zat, Za2, Zaf, Zap, Zab, Zag, Zam, Zax, Zc6, Zf2, Zbs, Zeb, Zb3, Zad, Zac, Zal, Zav, Zcq, Zbr, Option.some.injEq, Bool.true_and, Yaw, Za1 (hcv _), Try.ntmps42, hres, h1, decide_true, Zfc]
  · simp only [Zbj, Yap, Yaq, Nat.reduceAdd, Nat.reduceSub, Yae, Yaj, Yar, Zai, Zb2, Za3, Zae, Zan, Zas, Za9, Ze8, St.put, Yao, Yam, Yan, Yau, Nat.reduceLT, ne_eq, reduceCtorEq, not_false_eq_true, implies_true, Bool.not_true, Yav, Ya2, Yas, Yat, Yak, Yal, Zau, ↓reduceIte, Za4, Za0, Za6, Zat, Za2, Zap, Zbh, Zab, Zag, Zam, Zax, Zf2, Zeb, Zb3, Zad, Zac, Zal, Zav, Zcq, Zbr, Option.some.injEq, Bool.false_and, Yaw, Za1 (hcv _), Try.ntmps42, hres, h1, decide_false, Zfc]
theorem w20 (n : Int) (h : List O) : wc 20 [.int .i64 n] h = some (.val (.bool (Zfc n)), h) := by
  have hcv : ∀ i, wcv 20 i = [] := fun _ => rfl
  have hres : Try.f20.results.toList = [ResultVar.tmp 2] := rfl
  rw [wc, Zbm rfl Try.func20 rfl]
  by_cases h1 : 0 ≤ n
  · simp only [Zbj, Yap, Yaq, Nat.reduceAdd, Nat.reduceSub, Yae, Yaj, Yar, Zai, Zb2, Za3, Zae, Zan, Zas, Za9, Zch, Yao, Yam, Yan, Yau, Nat.reduceLT, ne_eq, reduceCtorEq, not_false_eq_true, implies_true, Ya2, Yas, Yat, Yak, Yal, Zau, ↓reduceIte, Za4, Za0, Za6, Zat, Za2, Zaf, Zap, Zab, Zag, Zam, Zax, Zc6, Zf2, Zbs, Zeb, Zb3, Zad, Zac, Zal, Zav, Zcq, Zbr, Option.some.injEq, Bool.true_and, Yaw, Za1 (hcv _), Try.ntmps20, hres, h1, decide_true, Zfc]
  · simp only [Zbj, Yap, Yaq, Nat.reduceAdd, Nat.reduceSub, Yae, Yaj, Yar, Zai, Zb2, Za3, Zae, Zan, Zas, Za9, Ze8, St.put, Yao, Yam, Yan, Yau, Nat.reduceLT, ne_eq, reduceCtorEq, not_false_eq_true, implies_true, Bool.not_true, Yav, Ya2, Yas, Yat, Yak, Yal, Zau, ↓reduceIte, Za4, Za0, Za6, Zat, Za2, Zap, Zbh, Zab, Zag, Zam, Zax, Zf2, Zeb, Zb3, Zad, Zac, Zal, Zav, Zcq, Zbr, Option.some.injEq, Bool.false_and, Yaw, Za1 (hcv _), Try.ntmps20, hres, h1, decide_false, Zfc]
theorem w88 (n : Int) (h : List O) : wc 88 [.int .i64 n] h = some (.val (.bool (Zn8 n)), h) := by
  have hcv : ∀ i, wcv 88 i = [] := fun _ => rfl
  have hres : Try.f88.results.toList = [ResultVar.tmp 2] := rfl
  rw [wc, Zbm rfl Try.func88 rfl]
  by_cases h1 : 0 ≤ n
  · simp only [Zbj, Yap, Yaq, Nat.reduceAdd, Nat.reduceSub, Yae, Yaj, Yar, Zai, Zb2, Za3, Zae, Zan, Zas, Za9, Zch, Yao, Yam, Yan, Yau, Nat.reduceLT, ne_eq, reduceCtorEq, not_false_eq_true, implies_true, Ya2, Yas, Yat, Yak, Yal, Zau, ↓reduceIte, Za4, Za0, Za6, Zat, Za2, Zaf, Zap, Zab, Zag, Zam, Zax, Zfx, Zf2, Zf0, Zeb, Zb3, Zad, Zac, Zal, Zav, Zcq, Zbr, Option.some.injEq, Bool.true_and, Yaw, Za1 (hcv _), Try.ntmps88, hres, h1, decide_true, Zn8]
  · simp only [Zbj, Yap, Yaq, Nat.reduceAdd, Nat.reduceSub, Yae, Yaj, Yar, Zai, Zb2, Za3, Zae, Zan, Zas, Za9, Ze8, St.put, Yao, Yam, Yan, Yau, Nat.reduceLT, ne_eq, reduceCtorEq, not_false_eq_true, implies_true, Bool.not_true, Yav, Ya2, Yas, Yat, Yak, Yal, Zau, ↓reduceIte, Za4, Za0, Za6, Zat, Za2, Zap, Zbh, Zab, Zag, Zam, Zax, Zf2, Zeb, Zb3, Zad, Zac, Zal, Zav, Zcq, Zbr, Option.some.injEq, Bool.false_and, Yaw, Za1 (hcv _), Try.ntmps88, hres, h1, decide_false, Zn8]
theorem w77 (s : ByteArray) (h : List O) : wc 77 [.str s] h = some (.val (.bool (Zo0 s)), h) := by
  have hcv : ∀ i, wcv 77 i = [] := fun _ => rfl
  have hres : Try.f77.results.toList = [ResultVar.tmp 2] := rfl
  rw [wc, Zbm rfl Try.func77 rfl]
  cases h1 : (!(s == ({ data := #[] } : ByteArray)))
  · simp only [Zbj, Yap, Yaq, Nat.reduceAdd, Nat.reduceSub, Yae, Yaj, Yar, Zai, Zb2, Za3, Zae, Zan, Zas, Za9, Ze8, St.put, Yao, Yam, Yan, Yau, Nat.reduceLT, ne_eq, reduceCtorEq, not_false_eq_true, implies_true, Bool.not_true, Yav, Ya2, Yas, Yat, Yak, Yal, Zau, ↓reduceIte, Za4, Za0, Za6, Zat, Za2, Zap, Zbh, Zab, Zag, Zax, Zja, Zla, Zkz, Zb3, Zad, Zac, Zal, Zav, Zcq, Zbr, Option.some.injEq, Bool.false_and, Yaw, Za1 (hcv _), Try.ntmps77, hres, h1, Zo0]
  · simp only [Zbj, Yap, Yaq, Nat.reduceAdd, Nat.reduceSub, Yae, Yaj, Yar, Zai, Zb2, Za3, Zae, Zan, Zbd, Zas, Za9, Zch, Yao, Yam, Yan, Yau, Nat.reduceLT, ne_eq, reduceCtorEq, not_false_eq_true, implies_true, Ya2, Yas, Yat, Yak, Yal, Zau, ↓reduceIte, Za4, Za0, Za6, Zat, Za2, Zaf, Zap, Zab, Zag, Zam, Zax, Zja, Zfx, Zla, Zkz, Zf0, Zd0, Zb3, Zad, Zac, Zal, Zav, Zcq, Zbr, Option.some.injEq, Option.bind_eq_bind, Bool.true_and, Yaw, Zhj, Option.pure_def, Try.underlying9, Za1 (hcv _), Try.ntmps77, hres, h1, Zo0]
theorem w38 (m : Msg) (l : D) (hl : Rd l (isE m.list)) (h : List O) : wc 38 [.agg (m.cs l)] h = some (.val (.bool (asks m.kind)), h) := by
  have hcv : ∀ i, wcv 38 i = [] := fun _ => rfl
  have hres : Try.f38.results.toList = [ResultVar.tmp 2] := rfl
  rw [wc, Zbm rfl Try.func38 rfl]
  by_cases h1 : 1 ≤ m.kind
  · simp only [Zbj, Yap, Yaq, Nat.reduceAdd, Nat.reduceSub, Yae, Yaj, Yar, Zai, Zb2, Za3, Zae, Zan, Zas, Za9, Zch, Yao, Yam, Yan, Yau, Nat.reduceLT, Nat.reduceLeDiff, ne_eq, reduceCtorEq, not_false_eq_true, implies_true, Yav, Ya2, Yas, Yat, Yak, Yal, Zau, Zbu, List.any_cons, List.any_nil, Zb7, ↓reduceIte, Za4, Za0, Za6, Zat, Zdq, Za5, Za2, Zaf, Zap, Zab, Zag, Zam, Zax, Zfx, Zf2, Zf0, Zeb, Zb3, Zad, Zac, Zal, Zav, Zbr, Option.some.injEq, Zar, Zbk, Za8, Zba, Zb9, Zb0, Zb8, Zbt, Zb4, Zaa, Zaj, Bool.or_self, Bool.true_and, Nat.add_zero, Yaw, Nat.succ_ne_zero, sz5, ag5, st27, Za1 (hcv _), Try.ntmps38, hres, h1, decide_true, asks, Msg.cs, hl.own]
  · simp only [Zbj, Yap, Yaq, Nat.reduceAdd, Nat.reduceSub, Yae, Yaj, Yar, Zai, Zb2, Za3, Zae, Zan, Zas, Za9, Ze8, St.put, Yao, Yam, Yan, Yau, Nat.reduceLT, Nat.reduceLeDiff, ne_eq, reduceCtorEq, not_false_eq_true, implies_true, Bool.not_true, Yav, Ya2, Yas, Yat, Yak, Yal, Zau, Zbu, List.any_cons, List.any_nil, Zb7, ↓reduceIte, Za4, Za0, Za6, Zat, Zdq, Za5, Za2, Zap, Zbh, Zab, Zag, Zam, Zax, Zf2, Zeb, Zb3, Zad, Zac, Zal, Zav, Zbr, Option.some.injEq, Zar, Zbk, Za8, Zba, Zb9, Zb0, Zb8, Zbt, Zb4, Zaa, Zaj, Bool.or_self, Bool.false_and, Nat.add_zero, Yaw, Nat.succ_ne_zero, sz5, ag5, st27, Za1 (hcv _), Try.ntmps38, hres, h1, decide_false, asks, Msg.cs, hl.own]
end Go.Abs
