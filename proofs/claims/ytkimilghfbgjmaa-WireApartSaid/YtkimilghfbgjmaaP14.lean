/-
  WIRE: the program's types, as the evaluator asks for them. WIRE: the small functions. WIRE: more of the small functions. WIRE: the plans of the regions whose order is open. WIRE: lists are compared. No condition.
-/
import Derived.Test.YtkimilghfbgjmaaP13
import Derived.Test.YtkimilghfbgjmaaChecked
import Derived.KernelRfl

namespace Go.Abs
open Go Go.Proofs
theorem sz3 : szOf Try.prog 3 = some 1 := by kernel_rfl
theorem ag3 : aggT Try.prog 3 = some false := by kernel_rfl
theorem zo3 : Zgs Try.prog 3 = some (.e (.int .i64 0)) := by kernel_rfl
theorem by3 : bytesOf' Try.prog 3 = some 8 := by kernel_rfl
theorem sz4 : szOf Try.prog 4 = some 1 := by kernel_rfl
theorem ag4 : aggT Try.prog 4 = some false := by kernel_rfl
theorem zo4 : Zgs Try.prog 4 = some (.e (.bool false)) := by kernel_rfl
theorem sz5 : szOf Try.prog 5 = some 1 := by kernel_rfl
theorem ag5 : aggT Try.prog 5 = some false := by kernel_rfl
theorem zo5 : Zgs Try.prog 5 = some (.e (.int .u8 0)) := by kernel_rfl
theorem by5 : bytesOf' Try.prog 5 = some 1 := by kernel_rfl
theorem sz9 : szOf Try.prog 9 = some 1 := by kernel_rfl
theorem ag9 : aggT Try.prog 9 = some false := by kernel_rfl
theorem sz22 : szOf Try.prog 22 = some 1 := by kernel_rfl
theorem ag22 : aggT Try.prog 22 = some false := by kernel_rfl
theorem el22 : elemT Try.prog 22 = some 3 := by kernel_rfl
theorem sz24 : szOf Try.prog 24 = some 4 := by kernel_rfl
theorem ag24 : aggT Try.prog 24 = some true := by kernel_rfl
theorem zo24 : Zgs Try.prog 24 = some (.agg [.e (.str { data := #[] }), .e (.int .i64 0), .e (.int .i64 0), .e (.bool false)]) := by kernel_rfl
theorem st24 : structOf Try.prog 24 = some [{ name := "Key", type := 9, offset := 0, embedded := false, tag := "", pkgPath := "", byteOffset := 0 }, { name := "Value", type := 3, offset := 1, embedded := false, tag := "", pkgPath := "", byteOffset := 16 }, { name := "Version", type := 3, offset := 2, embedded := false, tag := "", pkgPath := "", byteOffset := 24 }, { name := "Gone", type := 4, offset := 3, embedded := false, tag := "", pkgPath := "", byteOffset := 32 }] := by kernel_rfl
theorem sz25 : szOf Try.prog 25 = some 1 := by kernel_rfl
theorem ag25 : aggT Try.prog 25 = some false := by kernel_rfl
theorem zo25 : Zgs Try.prog 25 = some (.e (.int .i64 0)) := by kernel_rfl
theorem sz27 : szOf Try.prog 27 = some 15 := by kernel_rfl
theorem ag27 : aggT Try.prog 27 = some true := by kernel_rfl
theorem zo27 : Zgs Try.prog 27 = some (.agg [.e (.int .u8 0), .e (.int .i64 0), .e (.int .i64 0), .e (.int .i64 0), .e (.int .i64 0), .e (.bool false), .e (.bool false), .e (.int .i64 0), .e (.int .i64 0), .osl false true 0 [], .e (.str { data := #[] }), .e (.int .i64 0), .e (.int .i64 0), .e (.bool false), .e (.int .i64 0)]) := by kernel_rfl
theorem st27 : structOf Try.prog 27 = some [{ name := "Kind", type := 5, offset := 0, embedded := false, tag := "", pkgPath := "", byteOffset := 0 }, { name := "Call", type := 3, offset := 1, embedded := false, tag := "", pkgPath := "", byteOffset := 8 }, { name := "From", type := 3, offset := 2, embedded := false, tag := "", pkgPath := "", byteOffset := 16 }, { name := "To", type := 3, offset := 3, embedded := false, tag := "", pkgPath := "", byteOffset := 24 }, { name := "Key", type := 3, offset := 4, embedded := false, tag := "", pkgPath := "", byteOffset := 32 }, { name := "Slow", type := 4, offset := 5, embedded := false, tag := "", pkgPath := "", byteOffset := 40 }, { name := "Done", type := 4, offset := 6, embedded := false, tag := "", pkgPath := "", byteOffset := 41 }, { name := "Place", type := 3, offset := 7, embedded := false, tag := "", pkgPath := "", byteOffset := 48 }, { name := "Pred", type := 3, offset := 8, embedded := false, tag := "", pkgPath := "", byteOffset := 56 }, { name := "List", type := 22, offset := 9, embedded := false, tag := "", pkgPath := "", byteOffset := 64 }, { name := "Item", type := 24, offset := 10, embedded := false, tag := "", pkgPath := "", byteOffset := 88 }, { name := "Code", type := 25, offset := 14, embedded := false, tag := "", pkgPath := "", byteOffset := 128 }] := by kernel_rfl
theorem sz28 : szOf Try.prog 28 = some 1 := by kernel_rfl
theorem ag28 : aggT Try.prog 28 = some false := by kernel_rfl
theorem zo28 : Zgs Try.prog 28 = some (.e (.int .u32 0)) := by kernel_rfl
theorem sz31 : szOf Try.prog 31 = some 1 := by kernel_rfl
theorem ag31 : aggT Try.prog 31 = some false := by kernel_rfl
theorem zo31 : Zgs Try.prog 31 = some (.osl false true 0 []) := by kernel_rfl
theorem el31 : elemT Try.prog 31 = some 5 := by kernel_rfl
theorem st49 : structOf Try.prog 49 = some [{ name := "b", type := 31, offset := 0, embedded := false, tag := "", pkgPath := "garland/wire", byteOffset := 0 }] := by kernel_rfl
theorem zo51 : Zgs Try.prog 51 = some (.e .nilfn) := by kernel_rfl
theorem mp52 : mapT Try.prog 52 = some (5, 51) := by kernel_rfl
theorem sz56 : szOf Try.prog 56 = some 1 := by kernel_rfl
theorem ag56 : aggT Try.prog 56 = some false := by kernel_rfl
theorem zo58 : Zgs Try.prog 58 = some (.agg [.osl false true 0 []]) := by kernel_rfl
theorem st58 : structOf Try.prog 58 = some [{ name := "b", type := 31, offset := 0, embedded := false, tag := "", pkgPath := "garland/wire", byteOffset := 0 }] := by kernel_rfl
theorem zo59 : Zgs Try.prog 59 = some (.agg [.e (.int .i64 0), .e (.int .i64 0), .e (.int .i64 0), .e (.int .i64 0)]) := by kernel_rfl
theorem zo64 : Zgs Try.prog 64 = some (.e .nilfn) := by kernel_rfl
theorem mp65 : mapT Try.prog 65 = some (5, 64) := by kernel_rfl
theorem sz67 : szOf Try.prog 67 = some 1 := by kernel_rfl
theorem ag67 : aggT Try.prog 67 = some false := by kernel_rfl
theorem el105 : elemT Try.prog 105 = some 31 := by kernel_rfl
end Go.Abs

namespace Go.Abs
open Go Go.Proofs

/-- Given functions: bytes.Clone, slices.Grow at nil. -/
def wpr (f : FuncId) (args : List D) : Option D :=
  if f = 31 then (match args with
    | [d] => if ownD d then none else (match slOf d with
      | some es => if (Zhp es).isSome && decide (es.length ≤ 1073741824) then some (.osl true false 1 es) else none
      | none => none)
    | _ => none)
  else if f = 94 then (match args with
    | [.osl false true 0 [], .e (.int .i64 n)] => if 0 ≤ n ∧ n ≤ 1073741824 then some (.osl true false 1 []) else none
    | _ => none)
  else none

/-- What is said of slices in place. -/
def wcv (f : FuncId) (id : Nat) : List Cv :=
  if f = 47 then (if id = 8 then [.opnC 4] else if id = 9 then [.shutC 4] else []) else if f = 19 then (if id = 5 then [.kp 5] else []) else if f = 3 then (if id = 13 then [.opn 14] else if id = 18 then [.shut 14] else []) else []

noncomputable abbrev wc (f : FuncId) (args : List D) (h : List O) : Option (Out × List O) := call Try.prog wpr wcv (.fn f) args h

def Zej (n : Int) : Bool := decide (0 ≤ n) && decide (n < 65536)
def isWithin (n : Int) : Bool := decide (0 ≤ n) && decide (n ≤ 1048576)
def fineKey (s : ByteArray) : Bool := (!(s == { data := #[] })) && decide ((s.size : Int) ≤ 20)

/-- A message. -/
structure Msg where
  kind : Int
  call : Int
  frm : Int
  to : Int
  key : Int
  slow : Bool
  done : Bool
  place : Int
  pred : Int
  list : List Int
  ikey : ByteArray
  ival : Int
  iver : Int
  gone : Bool
  code : Int

def isE (l : List Int) : List (List E) := l.map fun n => [.int .i64 n]
/-- Its cells; l: its list. -/
def Msg.cs (m : Msg) (l : D) : List D :=
  [.int .u8 m.kind, .int .i64 m.call, .int .i64 m.frm, .int .i64 m.to, .int .i64 m.key, .bool m.slow, .bool m.done, .int .i64 m.place, .int .i64 m.pred, l, .str m.ikey, .int .i64 m.ival, .int .i64 m.iver, .bool m.gone, .int .i64 m.code]
def asks (k : Int) : Bool := decide (1 ≤ k) && decide (k ≤ 6)

set_option maxRecDepth 10000
theorem w42 (n : Int) (h : List O) : wc 42 [.int .i64 n] h = some (.val (.bool (Zej n)), h) := by
  have hcv : ∀ i, wcv 42 i = [] := fun _ => rfl
  have hres : Try.f42.results.toList = [ResultVar.tmp 2] := rfl
  rw [wc, Zbt rfl Try.func42 rfl]
  by_cases h1 : 0 ≤ n
  · simp only [Zbi, List.length_cons, List.length_nil, Nat.reduceAdd, Nat.reduceSub, List.replicate, List.cons_append, List.nil_append, Zaj, Zaz, Za3, Zae, Zao, Zak, Za9, Zc0, List.getElem?_toArray, List.getElem?_cons_succ, List.getElem?_cons_zero, Option.bind_some, Nat.reduceLT, ne_eq, reduceCtorEq, not_false_eq_true, implies_true, Option.map_some, List.set_cons_succ, List.set_cons_zero, List.getD_cons_succ, List.getD_cons_zero, Zau, ↓reduceIte, Za2, Za0, Za6, Zam, Za4, Zaf, Zaq, Zac, Zai, Zan, Zax, Zc2, Zem, Zbv, Ze1, Zb0, Zab, Zaa, Zah, Zat, Zcn, Zbm, Option.some.injEq, Bool.true_and, Nat.zero_add, Za1 (hcv _), Try.ntmps42, hres, h1, decide_true, Zej]
  · simp only [Zbi, List.length_cons, List.length_nil, Nat.reduceAdd, Nat.reduceSub, List.replicate, List.cons_append, List.nil_append, Zaj, Zaz, Za3, Zae, Zao, Zak, Za9, Zdl, St.put, List.getElem?_toArray, List.getElem?_cons_succ, List.getElem?_cons_zero, Option.bind_some, Nat.reduceLT, ne_eq, reduceCtorEq, not_false_eq_true, implies_true, Bool.not_true, Bool.false_eq_true, Option.map_some, List.set_cons_succ, List.set_cons_zero, List.getD_cons_succ, List.getD_cons_zero, Zau, ↓reduceIte, Za2, Za0, Za6, Zam, Za4, Zaq, Zb7, Zac, Zai, Zan, Zax, Zem, Ze1, Zb0, Zab, Zaa, Zah, Zat, Zcn, Zbm, Option.some.injEq, Bool.false_and, Nat.zero_add, Za1 (hcv _), Try.ntmps42, hres, h1, decide_false, Zej]
theorem w20 (n : Int) (h : List O) : wc 20 [.int .i64 n] h = some (.val (.bool (Zej n)), h) := by
  have hcv : ∀ i, wcv 20 i = [] := fun _ => rfl
  have hres : Try.f20.results.toList = [ResultVar.tmp 2] := rfl
  rw [wc, Zbt rfl Try.func20 rfl]
  by_cases h1 : 0 ≤ n
  · simp only [Zbi, List.length_cons, List.length_nil, Nat.reduceAdd, Nat.reduceSub, List.replicate, List.cons_append, List.nil_append, Zaj, Zaz, Za3, Zae, Zao, Zak, Za9, Zc0, List.getElem?_toArray, List.getElem?_cons_succ, List.getElem?_cons_zero, Option.bind_some, Nat.reduceLT, ne_eq, reduceCtorEq, not_false_eq_true, implies_true, Option.map_some, List.set_cons_succ, List.set_cons_zero, List.getD_cons_succ, List.getD_cons_zero, Zau, ↓reduceIte, Za2, Za0, Za6, Zam, Za4, Zaf, Zaq, Zac, Zai, Zan, Zax, Zc2, Zem, Zbv, Ze1, Zb0, Zab, Zaa, Zah, Zat, Zcn, Zbm, Option.some.injEq, Bool.true_and, Nat.zero_add, Za1 (hcv _), Try.ntmps20, hres, h1, decide_true, Zej]
  · simp only [Zbi, List.length_cons, List.length_nil, Nat.reduceAdd, Nat.reduceSub, List.replicate, List.cons_append, List.nil_append, Zaj, Zaz, Za3, Zae, Zao, Zak, Za9, Zdl, St.put, List.getElem?_toArray, List.getElem?_cons_succ, List.getElem?_cons_zero, Option.bind_some, Nat.reduceLT, ne_eq, reduceCtorEq, not_false_eq_true, implies_true, Bool.not_true, Bool.false_eq_true, Option.map_some, List.set_cons_succ, List.set_cons_zero, List.getD_cons_succ, List.getD_cons_zero, Zau, ↓reduceIte, Za2, Za0, Za6, Zam, Za4, Zaq, Zb7, Zac, Zai, Zan, Zax, Zem, Ze1, Zb0, Zab, Zaa, Zah, Zat, Zcn, Zbm, Option.some.injEq, Bool.false_and, Nat.zero_add, Za1 (hcv _), Try.ntmps20, hres, h1, decide_false, Zej]
theorem w88 (n : Int) (h : List O) : wc 88 [.int .i64 n] h = some (.val (.bool (isWithin n)), h) := by
  have hcv : ∀ i, wcv 88 i = [] := fun _ => rfl
  have hres : Try.f88.results.toList = [ResultVar.tmp 2] := rfl
  rw [wc, Zbt rfl Try.func88 rfl]
  by_cases h1 : 0 ≤ n
  · simp only [Zbi, List.length_cons, List.length_nil, Nat.reduceAdd, Nat.reduceSub, List.replicate, List.cons_append, List.nil_append, Zaj, Zaz, Za3, Zae, Zao, Zak, Za9, Zc0, List.getElem?_toArray, List.getElem?_cons_succ, List.getElem?_cons_zero, Option.bind_some, Nat.reduceLT, ne_eq, reduceCtorEq, not_false_eq_true, implies_true, Option.map_some, List.set_cons_succ, List.set_cons_zero, List.getD_cons_succ, List.getD_cons_zero, Zau, ↓reduceIte, Za2, Za0, Za6, Zam, Za4, Zaf, Zaq, Zac, Zai, Zan, Zax, Zfg, Zem, Zeo, Ze1, Zb0, Zab, Zaa, Zah, Zat, Zcn, Zbm, Option.some.injEq, Bool.true_and, Nat.zero_add, Za1 (hcv _), Try.ntmps88, hres, h1, decide_true, isWithin]
  · simp only [Zbi, List.length_cons, List.length_nil, Nat.reduceAdd, Nat.reduceSub, List.replicate, List.cons_append, List.nil_append, Zaj, Zaz, Za3, Zae, Zao, Zak, Za9, Zdl, St.put, List.getElem?_toArray, List.getElem?_cons_succ, List.getElem?_cons_zero, Option.bind_some, Nat.reduceLT, ne_eq, reduceCtorEq, not_false_eq_true, implies_true, Bool.not_true, Bool.false_eq_true, Option.map_some, List.set_cons_succ, List.set_cons_zero, List.getD_cons_succ, List.getD_cons_zero, Zau, ↓reduceIte, Za2, Za0, Za6, Zam, Za4, Zaq, Zb7, Zac, Zai, Zan, Zax, Zem, Ze1, Zb0, Zab, Zaa, Zah, Zat, Zcn, Zbm, Option.some.injEq, Bool.false_and, Nat.zero_add, Za1 (hcv _), Try.ntmps88, hres, h1, decide_false, isWithin]
theorem w77 (s : ByteArray) (h : List O) : wc 77 [.str s] h = some (.val (.bool (fineKey s)), h) := by
  have hcv : ∀ i, wcv 77 i = [] := fun _ => rfl
  have hres : Try.f77.results.toList = [ResultVar.tmp 2] := rfl
  rw [wc, Zbt rfl Try.func77 rfl]
  cases h1 : (!(s == ({ data := #[] } : ByteArray)))
  · simp only [Zbi, List.length_cons, List.length_nil, Nat.reduceAdd, Nat.reduceSub, List.replicate, List.cons_append, List.nil_append, Zaj, Zaz, Za3, Zae, Zao, Zak, Za9, Zdl, St.put, List.getElem?_toArray, List.getElem?_cons_succ, List.getElem?_cons_zero, Option.bind_some, Nat.reduceLT, ne_eq, reduceCtorEq, not_false_eq_true, implies_true, Bool.not_true, Bool.false_eq_true, Option.map_some, List.set_cons_succ, List.set_cons_zero, List.getD_cons_succ, List.getD_cons_zero, Zau, ↓reduceIte, Za2, Za0, Za6, Zam, Za4, Zaq, Zb7, Zac, Zai, Zax, Zj2, binS_neq, strD_neq, Zb0, Zab, Zaa, Zah, Zat, Zcn, Zbm, Option.some.injEq, Bool.false_and, Nat.zero_add, Za1 (hcv _), Try.ntmps77, hres, h1, fineKey]
  · simp only [Zbi, List.length_cons, List.length_nil, Nat.reduceAdd, Nat.reduceSub, List.replicate, List.cons_append, List.nil_append, Zaj, Zaz, Za3, Zae, Zao, Zbb, Zak, Za9, Zc0, List.getElem?_toArray, List.getElem?_cons_succ, List.getElem?_cons_zero, Option.bind_some, Nat.reduceLT, ne_eq, reduceCtorEq, not_false_eq_true, implies_true, Option.map_some, List.set_cons_succ, List.set_cons_zero, List.getD_cons_succ, List.getD_cons_zero, Zau, ↓reduceIte, Za2, Za0, Za6, Zam, Za4, Zaf, Zaq, Zac, Zai, Zan, Zax, Zj2, Zfg, binS_neq, strD_neq, Zeo, Zd0, Zb0, Zab, Zaa, Zah, Zat, Zcn, Zbm, Option.some.injEq, Option.bind_eq_bind, Bool.true_and, Nat.zero_add, Zh0, Option.pure_def, Try.underlying9, Za1 (hcv _), Try.ntmps77, hres, h1, fineKey]
theorem w38 (m : Msg) (l : D) (hl : Rd l (isE m.list)) (h : List O) : wc 38 [.agg (m.cs l)] h = some (.val (.bool (asks m.kind)), h) := by
  have hcv : ∀ i, wcv 38 i = [] := fun _ => rfl
  have hres : Try.f38.results.toList = [ResultVar.tmp 2] := rfl
  rw [wc, Zbt rfl Try.func38 rfl]
  by_cases h1 : 1 ≤ m.kind
  · simp only [Zbi, List.length_cons, List.length_nil, Nat.reduceAdd, Nat.reduceSub, List.replicate, List.cons_append, List.nil_append, Zaj, Zaz, Za3, Zae, Zao, Zak, Za9, Zc0, List.getElem?_toArray, List.getElem?_cons_succ, List.getElem?_cons_zero, Option.bind_some, Nat.reduceLT, Nat.reduceLeDiff, ne_eq, reduceCtorEq, not_false_eq_true, implies_true, Bool.false_eq_true, Option.map_some, List.set_cons_succ, List.set_cons_zero, List.getD_cons_succ, List.getD_cons_zero, Zau, Zbo, List.any_cons, List.any_nil, Zb3, ↓reduceIte, Za2, Za0, Za6, Zam, Zd2, Za5, Za4, Zaf, Zaq, Zac, Zai, Zan, Zax, Zfg, Zem, Zeo, Ze1, Zb0, Zab, Zaa, Zah, Zat, Zbm, Option.some.injEq, Zas, Zbg, Zad, Zb6, Zb5, Zb1, Zb9, Zbs, Zb2, Za8, Zag, Bool.or_self, Bool.true_and, Nat.add_zero, Nat.zero_add, Nat.succ_ne_zero, sz5, ag5, st27, Za1 (hcv _), Try.ntmps38, hres, h1, decide_true, asks, Msg.cs, hl.own]
  · simp only [Zbi, List.length_cons, List.length_nil, Nat.reduceAdd, Nat.reduceSub, List.replicate, List.cons_append, List.nil_append, Zaj, Zaz, Za3, Zae, Zao, Zak, Za9, Zdl, St.put, List.getElem?_toArray, List.getElem?_cons_succ, List.getElem?_cons_zero, Option.bind_some, Nat.reduceLT, Nat.reduceLeDiff, ne_eq, reduceCtorEq, not_false_eq_true, implies_true, Bool.not_true, Bool.false_eq_true, Option.map_some, List.set_cons_succ, List.set_cons_zero, List.getD_cons_succ, List.getD_cons_zero, Zau, Zbo, List.any_cons, List.any_nil, Zb3, ↓reduceIte, Za2, Za0, Za6, Zam, Zd2, Za5, Za4, Zaq, Zb7, Zac, Zai, Zan, Zax, Zem, Ze1, Zb0, Zab, Zaa, Zah, Zat, Zbm, Option.some.injEq, Zas, Zbg, Zad, Zb6, Zb5, Zb1, Zb9, Zbs, Zb2, Za8, Zag, Bool.or_self, Bool.false_and, Nat.add_zero, Nat.zero_add, Nat.succ_ne_zero, sz5, ag5, st27, Za1 (hcv _), Try.ntmps38, hres, h1, decide_false, asks, Msg.cs, hl.own]

end Go.Abs

namespace Go.Abs
open Go Go.Proofs
set_option maxRecDepth 10000

def asks' (k : Int) : Bool := decide (0 < k) && decide (k ≤ 6)
theorem w75 (m : Msg) (l : D) (hl : Rd l (isE m.list)) (h : List O) : wc 75 [.agg (m.cs l)] h = some (.val (.bool (asks' m.kind)), h) := by
  have hcv : ∀ i, wcv 75 i = [] := fun _ => rfl
  have hres : Try.f75.results.toList = [ResultVar.tmp 2] := rfl
  rw [wc, Zbt rfl Try.func75 rfl]
  cases hc0 : decide (0 < m.kind)
  · simp only [Zbi, List.length_cons, List.length_nil, Nat.reduceAdd, Nat.reduceSub, List.replicate, List.cons_append, List.nil_append, Zaj, Zaz, Za3, Zae, Zao, Zak, Za9, Zdl, St.put, List.getElem?_toArray, List.getElem?_cons_succ, List.getElem?_cons_zero, Option.bind_some, Nat.reduceLT, Nat.reduceLeDiff, ne_eq, reduceCtorEq, not_false_eq_true, implies_true, Bool.not_true, Bool.false_eq_true, Option.map_some, List.set_cons_succ, List.set_cons_zero, List.getD_cons_succ, List.getD_cons_zero, Zau, Zbo, List.any_cons, List.any_nil, Zb3, ↓reduceIte, Za2, Za0, Za6, Zam, Zd2, Za5, Za4, Zaq, Zb7, Zac, Zai, Zan, Zax, Zf6, Zei, Zb0, Zab, Zaa, Zah, Zat, Zbm, Option.some.injEq, Zas, Zbg, Zad, Zb6, Zb5, Zb1, Zb9, Zbs, Zb2, Za8, Zag, Bool.or_self, Bool.false_and, Nat.add_zero, Nat.zero_add, Nat.succ_ne_zero, sz5, ag5, st27, Za1 (hcv _), Try.ntmps75, hres, hc0, asks', Msg.cs, hl.own]
  simp only [Zbi, List.length_cons, List.length_nil, Nat.reduceAdd, Nat.reduceSub, List.replicate, List.cons_append, List.nil_append, Zaj, Zaz, Za3, Zae, Zao, Zak, Za9, Zc0, List.getElem?_toArray, List.getElem?_cons_succ, List.getElem?_cons_zero, Option.bind_some, Nat.reduceLT, Nat.reduceLeDiff, ne_eq, reduceCtorEq, not_false_eq_true, implies_true, Bool.false_eq_true, Option.map_some, List.set_cons_succ, List.set_cons_zero, List.getD_cons_succ, List.getD_cons_zero, Zau, Zbo, List.any_cons, List.any_nil, Zb3, ↓reduceIte, Za2, Za0, Za6, Zam, Zd2, Za5, Za4, Zaf, Zaq, Zac, Zai, Zan, Zax, Zfg, Zf6, Zeo, Zei, Zb0, Zab, Zaa, Zah, Zat, Zbm, Option.some.injEq, Zas, Zbg, Zad, Zb6, Zb5, Zb1, Zb9, Zbs, Zb2, Za8, Zag, Bool.or_self, Bool.true_and, Nat.add_zero, Nat.zero_add, Nat.succ_ne_zero, sz5, ag5, st27, Za1 (hcv _), Try.ntmps75, hres, hc0, asks', Msg.cs, hl.own]
theorem w21 (m : Msg) (l : D) (hl : Rd l (isE m.list)) (h : List O) : wc 21 [.agg (m.cs l)] h = some (.val (.int .i64 (if asks m.kind then m.frm else m.to)), h) := by
  have hf := w38 m l hl
  simp only [Msg.cs] at hf
  have hcv : ∀ i, wcv 21 i = [] := fun _ => rfl
  have hres : Try.f21.results.toList = [ResultVar.tmp 2] := rfl
  rw [wc, Zbt rfl Try.func21 rfl]
  cases h1 : asks m.kind <;> simp only [Zbi, List.length_cons, List.length_nil, Nat.reduceAdd, Nat.reduceSub, List.replicate, List.cons_append, List.nil_append, Zaj, Zbz, Zaz, Za7, Zal, Zar, Za3, Zbr, Zae, Zao, Zbe, Zbf, Za9, Zbq, List.getElem?_cons_succ, List.getElem?_cons_zero, Option.bind_some, Nat.reduceLeDiff, ne_eq, reduceCtorEq, not_false_eq_true, implies_true, Bool.false_eq_true, Option.map_some, List.set_cons_succ, List.set_cons_zero, List.getD_cons_succ, List.getD_cons_zero, Zau, Zbo, List.any_cons, List.any_nil, Zb3, ↓reduceIte, Za0, Zd2, Za5, Za4, Zaq, Zac, Zaw, Zap, Zan, Zb0, Zab, Zaa, Zah, Zat, Zbm, Zas, Zbg, Zad, Zb6, Zb5, Zb1, Zb9, Zbs, Zb2, List.take_succ_cons, List.take_zero, List.drop_zero, Za8, Zag, Bool.or_self, Nat.zero_add, Nat.succ_ne_zero, Nat.le_refl, sz3, sz27, ag3, ag27, st27, Za1 (hcv _), Try.ntmps21, hres, h1, Msg.cs, hl.own, hf]
theorem w43 (m : Msg) (l : D) (hl : Rd l (isE m.list)) (h : List O) : wc 43 [.agg (m.cs l)] h = some (.val (.int .i64 (if asks' m.kind then m.frm else m.to)), h) := by
  have hf := w75 m l hl
  simp only [Msg.cs] at hf
  have hcv : ∀ i, wcv 43 i = [] := fun _ => rfl
  have hres : Try.f43.results.toList = [ResultVar.tmp 2] := rfl
  rw [wc, Zbt rfl Try.func43 rfl]
  cases h1 : asks' m.kind <;> simp only [Zbi, List.length_cons, List.length_nil, Nat.reduceAdd, Nat.reduceSub, List.replicate, List.cons_append, List.nil_append, Zaj, Zbz, Zaz, Za7, Zal, Zar, Za3, Zbr, Zae, Zao, Zbe, Zbf, Za9, Zbq, List.getElem?_cons_succ, List.getElem?_cons_zero, Option.bind_some, Nat.reduceLeDiff, ne_eq, reduceCtorEq, not_false_eq_true, implies_true, Bool.false_eq_true, Option.map_some, List.set_cons_succ, List.set_cons_zero, List.getD_cons_succ, List.getD_cons_zero, Zau, Zbo, List.any_cons, List.any_nil, Zb3, ↓reduceIte, Za0, Zd2, Za5, Za4, Zaq, Zac, Zaw, Zap, Zan, Zb0, Zab, Zaa, Zah, Zat, Zbm, Zas, Zbg, Zad, Zb6, Zb5, Zb1, Zb9, Zbs, Zb2, List.take_succ_cons, List.take_zero, List.drop_zero, Za8, Zag, Bool.or_self, Nat.zero_add, Nat.succ_ne_zero, Nat.le_refl, sz3, sz27, ag3, ag27, st27, Za1 (hcv _), Try.ntmps43, hres, h1, Msg.cs, hl.own, hf]

/-- An item's cells. -/
def Zh8 (k : ByteArray) (v n : Int) (g : Bool) : List D := [.str k, .int .i64 v, .int .i64 n, .bool g]
def Zik (k : ByteArray) (v n : Int) : Bool := fineKey k && isWithin v && isWithin n
theorem w76 (k : ByteArray) (v n : Int) (g : Bool) (h : List O) : wc 76 [.agg (Zh8 k v n g)] h = some (.val (.bool (Zik k v n)), h) := by
  have hcv : ∀ i, wcv 76 i = [] := fun _ => rfl
  have hres : Try.f76.results.toList = [ResultVar.tmp 2] := rfl
  rw [wc, Zbt rfl Try.func76 rfl]
  cases hc0 : fineKey k
  · simp only [Zbi, List.length_cons, List.length_nil, Nat.reduceAdd, Nat.reduceSub, List.replicate, List.cons_append, List.nil_append, Zaj, Zaz, Za3, Zae, Zao, Zbe, Zbf, Zak, Za9, Zbq, Zdl, St.put, List.getElem?_toArray, List.getElem?_cons_succ, List.getElem?_cons_zero, Option.bind_some, Nat.reduceLT, Nat.reduceLeDiff, ne_eq, reduceCtorEq, not_false_eq_true, implies_true, Bool.not_true, Bool.false_eq_true, Option.map_some, List.set_cons_succ, List.set_cons_zero, List.getD_cons_succ, List.getD_cons_zero, Zau, Zbo, List.any_cons, List.any_nil, Zb3, ↓reduceIte, Za2, Za0, Zam, Zd2, Za5, Za4, Zaq, Zb7, Zac, Zaw, Zap, Zax, Zb0, Zab, Zaa, Zah, Zat, Zbm, Option.some.injEq, Zas, Zbg, Zad, Zb6, Zb5, Zb1, Zb9, Zbs, Zb2, Za8, Zag, Bool.or_self, Bool.false_and, Nat.add_zero, Nat.zero_add, Nat.succ_ne_zero, sz9, ag9, st24, Za1 (hcv _), Try.ntmps76, hres, hc0, Zh8, w77, Zik]
  cases hc1 : isWithin v
  · simp only [Zbi, List.length_cons, List.length_nil, Nat.reduceAdd, Nat.reduceSub, List.replicate, List.cons_append, List.nil_append, Zaj, Zaz, Za3, Zae, Zao, Zbe, Zbf, Zak, Za9, Zbq, Zc0, Zdl, St.put, List.getElem?_toArray, List.getElem?_cons_succ, List.getElem?_cons_zero, Option.bind_some, Nat.reduceLT, Nat.reduceLeDiff, ne_eq, reduceCtorEq, not_false_eq_true, implies_true, Bool.not_true, Bool.false_eq_true, Option.map_some, List.set_cons_succ, List.set_cons_zero, List.getD_cons_succ, List.getD_cons_zero, Zau, Zbo, List.any_cons, List.any_nil, Zb3, ↓reduceIte, Za2, Za0, Zam, Zd2, Za5, Za4, Zaf, Zaq, Zb7, Zac, Zaw, Zap, Zax, Zb0, Zab, Zaa, Zah, Zat, Zbm, Option.some.injEq, Zas, Zbg, Zad, Zb6, Zb5, Zb1, Zb9, Zbs, Zb2, Za8, Zag, Bool.or_self, Bool.and_false, Bool.false_and, Nat.add_zero, Nat.zero_add, Nat.succ_ne_zero, sz3, sz9, ag3, ag9, st24, Za1 (hcv _), Try.ntmps76, hres, hc0, hc1, Zh8, w77, w88, Zik]
  simp only [Zbi, List.length_cons, List.length_nil, Nat.reduceAdd, Nat.reduceSub, List.replicate, List.cons_append, List.nil_append, Zaj, Zaz, Za3, Zae, Zao, Zbe, Zbf, Zak, Za9, Zbq, Zc0, List.getElem?_toArray, List.getElem?_cons_succ, List.getElem?_cons_zero, Option.bind_some, Nat.reduceLT, Nat.reduceLeDiff, ne_eq, reduceCtorEq, not_false_eq_true, implies_true, Bool.false_eq_true, Option.map_some, List.set_cons_succ, List.set_cons_zero, List.getD_cons_succ, List.getD_cons_zero, Zau, Zbo, List.any_cons, List.any_nil, Zb3, ↓reduceIte, Za2, Za0, Zam, Zd2, Za5, Za4, Zaf, Zaq, Zac, Zaw, Zap, Zax, Zb0, Zab, Zaa, Zah, Zat, Zbm, Option.some.injEq, Zas, Zbg, Zad, Zb6, Zb5, Zb1, Zb9, Zbs, Zb2, Za8, Zag, Bool.or_self, Bool.and_true, Bool.true_and, Nat.add_zero, Nat.zero_add, Nat.succ_ne_zero, sz3, sz9, ag3, ag9, st24, Za1 (hcv _), Try.ntmps76, hres, hc0, hc1, Zh8, w77, w88, Zik]
def Zgj (k : ByteArray) (v n : Int) : Bool := decide ((1 : Int) ≤ k.size) && (decide ((k.size : Int) ≤ 20) && (decide (0 ≤ v) && (decide (v ≤ 1048576) && (decide (0 ≤ n) && decide (n ≤ 1048576)))))
theorem w39 (k : ByteArray) (v n : Int) (g : Bool) (h : List O) : wc 39 [.agg (Zh8 k v n g)] h = some (.val (.bool (Zgj k v n)), h) := by
  have hcv : ∀ i, wcv 39 i = [] := fun _ => rfl
  have hres : Try.f39.results.toList = [ResultVar.tmp 2] := rfl
  rw [wc, Zbt rfl Try.func39 rfl]
  cases hc0 : decide ((1 : Int) ≤ k.size)
  · simp only [Zbi, List.length_cons, List.length_nil, Nat.reduceAdd, Nat.reduceSub, List.replicate, List.cons_append, List.nil_append, Zaj, Zaz, Za3, Zae, Zao, Zbb, Zak, Za9, Zdl, St.put, List.getElem?_toArray, List.getElem?_cons_succ, List.getElem?_cons_zero, Option.bind_some, Nat.reduceLT, Nat.reduceLeDiff, ne_eq, reduceCtorEq, not_false_eq_true, implies_true, Bool.not_true, Bool.false_eq_true, Option.map_some, List.set_cons_succ, List.set_cons_zero, List.getD_cons_succ, List.getD_cons_zero, Zau, Zbo, List.any_cons, List.any_nil, Zb3, ↓reduceIte, Za2, Za0, Za6, Zam, Zd2, Za5, Za4, Zaq, Zb7, Zac, Zai, Zan, Zax, Zem, Ze1, Zd0, Zb0, Zab, Zaa, Zah, Zat, Zbm, Option.some.injEq, Zas, Zbg, Zad, Zb6, Zb5, Zb1, Zb9, Zbs, Zb2, Za8, Option.bind_eq_bind, Zag, Bool.or_self, Bool.false_and, Nat.add_zero, Nat.zero_add, Nat.succ_ne_zero, Zh0, Option.pure_def, Try.underlying9, sz9, ag9, st24, Za1 (hcv _), Try.ntmps39, hres, hc0, Zh8, Zgj]
  cases hc1 : decide ((k.size : Int) ≤ 20)
  · simp only [Zbi, List.length_cons, List.length_nil, Nat.reduceAdd, Nat.reduceSub, List.replicate, List.cons_append, List.nil_append, Zaj, Zaz, Za3, Zae, Zao, Zbb, Zak, Za9, Zc0, Zdl, St.put, List.getElem?_toArray, List.getElem?_cons_succ, List.getElem?_cons_zero, Option.bind_some, Nat.reduceLT, Nat.reduceLeDiff, ne_eq, reduceCtorEq, not_false_eq_true, implies_true, Bool.not_true, Bool.false_eq_true, Option.map_some, List.set_cons_succ, List.set_cons_zero, List.getD_cons_succ, List.getD_cons_zero, Zau, Zbo, List.any_cons, List.any_nil, Zb3, ↓reduceIte, Za2, Za0, Za6, Zam, Zd2, Za5, Za4, Zaf, Zaq, Zb7, Zac, Zai, Zan, Zax, Zfg, Zem, Zeo, Ze1, Zd0, Zb0, Zab, Zaa, Zah, Zat, Zbm, Option.some.injEq, Zas, Zbg, Zad, Zb6, Zb5, Zb1, Zb9, Zbs, Zb2, Za8, Option.bind_eq_bind, Zag, Bool.or_self, Bool.and_false, Bool.false_and, Nat.add_zero, Nat.zero_add, Nat.succ_ne_zero, Zh0, Option.pure_def, Try.underlying9, sz9, ag9, st24, Za1 (hcv _), Try.ntmps39, hres, hc0, hc1, Zh8, Zgj]
  cases hc2 : decide (0 ≤ v)
  · simp only [Zbi, List.length_cons, List.length_nil, Nat.reduceAdd, Nat.reduceSub, List.replicate, List.cons_append, List.nil_append, Zaj, Zaz, Za3, Zae, Zao, Zbb, Zak, Za9, Zc0, Zdl, St.put, List.getElem?_toArray, List.getElem?_cons_succ, List.getElem?_cons_zero, Option.bind_some, Nat.reduceLT, Nat.reduceLeDiff, ne_eq, reduceCtorEq, not_false_eq_true, implies_true, Bool.not_true, Bool.false_eq_true, Option.map_some, List.set_cons_succ, List.set_cons_zero, List.getD_cons_succ, List.getD_cons_zero, Zau, Zbo, List.any_cons, List.any_nil, Zb3, ↓reduceIte, Za2, Za0, Za6, Zam, Zd2, Za5, Za4, Zaf, Zaq, Zb7, Zac, Zai, Zan, Zax, Zfg, Zem, Zeo, Ze1, Zd0, Zb0, Zab, Zaa, Zah, Zat, Zbm, Option.some.injEq, Zas, Zbg, Zad, Zb6, Zb5, Zb1, Zb9, Zbs, Zb2, Za8, Option.bind_eq_bind, Zag, Bool.or_self, Bool.and_false, Bool.false_and, Nat.add_zero, Nat.zero_add, Nat.succ_ne_zero, Zh0, Option.pure_def, Try.underlying9, sz3, sz9, ag3, ag9, st24, Za1 (hcv _), Try.ntmps39, hres, hc0, hc1, hc2, Zh8, Zgj]
  cases hc3 : decide (v ≤ 1048576)
  · simp only [Zbi, List.length_cons, List.length_nil, Nat.reduceAdd, Nat.reduceSub, List.replicate, List.cons_append, List.nil_append, Zaj, Zaz, Za3, Zae, Zao, Zbb, Zak, Za9, Zc0, Zdl, St.put, List.getElem?_toArray, List.getElem?_cons_succ, List.getElem?_cons_zero, Option.bind_some, Nat.reduceLT, Nat.reduceLeDiff, ne_eq, reduceCtorEq, not_false_eq_true, implies_true, Bool.not_true, Bool.false_eq_true, Option.map_some, List.set_cons_succ, List.set_cons_zero, List.getD_cons_succ, List.getD_cons_zero, Zau, Zbo, List.any_cons, List.any_nil, Zb3, ↓reduceIte, Za2, Za0, Za6, Zam, Zd2, Za5, Za4, Zaf, Zaq, Zb7, Zac, Zai, Zan, Zax, Zfg, Zem, Zeo, Ze1, Zd0, Zb0, Zab, Zaa, Zah, Zat, Zbm, Option.some.injEq, Zas, Zbg, Zad, Zb6, Zb5, Zb1, Zb9, Zbs, Zb2, Za8, Option.bind_eq_bind, Zag, Bool.or_self, Bool.and_false, Bool.false_and, Nat.add_zero, Nat.zero_add, Nat.succ_ne_zero, Zh0, Option.pure_def, Try.underlying9, sz3, sz9, ag3, ag9, st24, Za1 (hcv _), Try.ntmps39, hres, hc0, hc1, hc2, hc3, Zh8, Zgj]
  cases hc4 : decide (0 ≤ n)
  · simp only [Zbi, List.length_cons, List.length_nil, Nat.reduceAdd, Nat.reduceSub, List.replicate, List.cons_append, List.nil_append, Zaj, Zaz, Za3, Zae, Zao, Zbb, Zak, Za9, Zc0, Zdl, St.put, List.getElem?_toArray, List.getElem?_cons_succ, List.getElem?_cons_zero, Option.bind_some, Nat.reduceLT, Nat.reduceLeDiff, ne_eq, reduceCtorEq, not_false_eq_true, implies_true, Bool.not_true, Bool.false_eq_true, Option.map_some, List.set_cons_succ, List.set_cons_zero, List.getD_cons_succ, List.getD_cons_zero, Zau, Zbo, List.any_cons, List.any_nil, Zb3, ↓reduceIte, Za2, Za0, Za6, Zam, Zd2, Za5, Za4, Zaf, Zaq, Zb7, Zac, Zai, Zan, Zax, Zfg, Zem, Zeo, Ze1, Zd0, Zb0, Zab, Zaa, Zah, Zat, Zbm, Option.some.injEq, Zas, Zbg, Zad, Zb6, Zb5, Zb1, Zb9, Zbs, Zb2, Za8, Option.bind_eq_bind, Zag, Bool.or_self, Bool.and_false, Bool.false_and, Nat.add_zero, Nat.zero_add, Nat.succ_ne_zero, Zh0, Option.pure_def, Try.underlying9, sz3, sz9, ag3, ag9, st24, Za1 (hcv _), Try.ntmps39, hres, hc0, hc1, hc2, hc3, hc4, Zh8, Zgj]
  simp only [Zbi, List.length_cons, List.length_nil, Nat.reduceAdd, Nat.reduceSub, List.replicate, List.cons_append, List.nil_append, Zaj, Zaz, Za3, Zae, Zao, Zbb, Zak, Za9, Zc0, List.getElem?_toArray, List.getElem?_cons_succ, List.getElem?_cons_zero, Option.bind_some, Nat.reduceLT, Nat.reduceLeDiff, ne_eq, reduceCtorEq, not_false_eq_true, implies_true, Bool.false_eq_true, Option.map_some, List.set_cons_succ, List.set_cons_zero, List.getD_cons_succ, List.getD_cons_zero, Zau, Zbo, List.any_cons, List.any_nil, Zb3, ↓reduceIte, Za2, Za0, Za6, Zam, Zd2, Za5, Za4, Zaf, Zaq, Zac, Zai, Zan, Zax, Zfg, Zem, Zeo, Ze1, Zd0, Zb0, Zab, Zaa, Zah, Zat, Zbm, Option.some.injEq, Zas, Zbg, Zad, Zb6, Zb5, Zb1, Zb9, Zbs, Zb2, Za8, Option.bind_eq_bind, Zag, Bool.or_self, Bool.true_and, Nat.add_zero, Nat.zero_add, Nat.succ_ne_zero, Zh0, Option.pure_def, Try.underlying9, sz3, sz9, ag3, ag9, st24, Za1 (hcv _), Try.ntmps39, hres, hc0, hc1, hc2, hc3, hc4, Zh8, Zgj]

def sizeZ (n : Int) : Int := if decide (0 ≤ n) && decide (n ≤ 112) then IntKind.i64.wrap (n + 8) else 0
theorem w35 (n : Int) (h : List O) : wc 35 [.int .i64 n] h = some (.val (.int .i64 (sizeZ n)), h) := by
  have hcv : ∀ i, wcv 35 i = [] := fun _ => rfl
  have hres : Try.f35.results.toList = [ResultVar.tmp 2] := rfl
  rw [wc, Zbt rfl Try.func35 rfl]
  cases h1 : decide (0 ≤ n) <;> cases h2 : decide (n ≤ 112) <;> simp only [Zbi, List.length_cons, List.length_nil, Nat.reduceAdd, Nat.reduceSub, List.replicate, List.cons_append, List.nil_append, Zaj, Zbz, Zaz, Za7, Zal, Zar, Za3, Zbr, Zae, Zao, Zak, Za9, Zc0, Zdl, St.put, List.getElem?_toArray, List.getElem?_cons_succ, List.getElem?_cons_zero, Option.bind_some, Nat.reduceLT, ne_eq, reduceCtorEq, not_false_eq_true, implies_true, Bool.not_true, Bool.false_eq_true, Option.map_some, List.set_cons_succ, List.set_cons_zero, List.getD_cons_succ, List.getD_cons_zero, Zau, ↓reduceIte, Za2, Za0, Za6, Zam, Za4, Zaf, Zaq, Zb7, Zac, Zai, Zan, Zax, Zdf, Zfg, Zem, Zcv, Zeo, Ze1, Zb0, Zab, Zaa, Zah, Zat, Zcn, Zbm, Option.some.injEq, Bool.and_false, Bool.and_true, Nat.zero_add, Za1 (hcv _), Try.ntmps35, hres, h1, h2, sizeZ]
theorem w14 (h : List O) : wc 14 [] h = some (.val (.int .i64 46), h) := by
  have hcv : ∀ i, wcv 14 i = [] := fun _ => rfl
  have hres : Try.f14.results.toList = [ResultVar.tmp 0] := rfl
  rw [wc, Zbt rfl Try.func14 rfl]
  simp only [Zbi, List.length_nil, Nat.reduceSub, List.replicate, List.nil_append, Zaj, Zaz, Za3, Zae, Zao, Za9, ne_eq, reduceCtorEq, not_false_eq_true, implies_true, Option.map_some, List.set_cons_zero, List.getD_cons_zero, Zau, Za0, Za4, Zaq, Zan, Zb0, Zab, Zaa, Zah, Zat, Zcn, Zbm, Za1 (hcv _), Try.ntmps14, hres]
theorem w33 (b : Bool) (h : List O) : wc 33 [.bool b] h = some (if b then .val Zav else .pan (.e (.iface 25 (.int .i64 12))), h) := by
  have hcv : ∀ i, wcv 33 i = [] := fun _ => rfl
  have hres : Try.f33.results.toList = [] := rfl
  rw [wc, Zbt rfl Try.func33 rfl]
  cases b <;> simp only [Zbi, List.length_cons, List.length_nil, Nat.reduceSub, List.replicate, List.cons_append, List.nil_append, Zaj, Zbz, Za7, Zal, Zar, Za3, Zae, Zao, Za9, kR_pan, ne_eq, reduceCtorEq, not_false_eq_true, implies_true, Bool.not_true, Bool.not_false, Bool.false_eq_true, Option.map_some, List.set_cons_succ, List.set_cons_zero, List.getD_cons_succ, List.getD_cons_zero, Zau, ↓reduceIte, Za2, Zdn, Zf4, exO_panic, Zb7, Zac, Zan, Zes, Zer, kF_pan, Zab, leave_pan, Zaa, Zcr, Zcn, Zbm, Zcw, List.not_mem_nil, false_imp_iff, Nat.zero_add, Try.underlying25, Za1 (hcv _), Try.ntmps33, hres, isIface]
theorem w7 (m : Msg) (l : D) (hl : Rd l (isE m.list)) (h : List O) : wc 7 [.agg (m.cs l)] h = some (.val (.bool (decide ((40 : Int) < m.list.length) || decide ((300 : Int) < m.ikey.size))), h) := by
  have hlen : ∀ H, len0 Try.prog 22 l H = some m.list.length := fun H => by rw [len0_of Try.underlying22 hl.sl]; simp [isE]
  have hcv : ∀ i, wcv 7 i = [] := fun _ => rfl
  have hres : Try.f7.results.toList = [ResultVar.tmp 2] := rfl
  rw [wc, Zbt rfl Try.func7 rfl]
  cases hc0 : decide ((40 : Int) < m.list.length)
  rotate_left
  · simp only [Zbi, List.length_cons, List.length_nil, Nat.reduceAdd, Nat.reduceSub, List.replicate, List.cons_append, List.nil_append, Zaj, Zaz, Za3, Zae, Zao, Zbb, Zak, Za9, Zdl, St.put, List.getElem?_toArray, List.getElem?_cons_succ, List.getElem?_cons_zero, Option.bind_some, Nat.reduceLT, Nat.reduceLeDiff, ne_eq, reduceCtorEq, not_false_eq_true, implies_true, Bool.not_false, Bool.false_eq_true, Option.map_some, List.set_cons_succ, List.set_cons_zero, List.getD_cons_succ, List.getD_cons_zero, Zau, Zbo, List.any_cons, List.any_nil, Zb3, ↓reduceIte, Za2, Za0, Za6, Zam, Zd2, Za5, Za4, Zaq, Zb7, Zac, Zai, Zan, Zax, Zf6, Zei, Zd0, Zb0, Zab, Zaa, Zah, Zat, Zbm, Option.some.injEq, Zas, Zbg, hlen, Zad, Zb6, Zb5, Zb1, Zb9, Zbs, Zb2, Za8, Option.bind_eq_bind, Zag, Bool.or_self, Bool.true_or, Nat.zero_add, Nat.succ_ne_zero, Option.pure_def, sz22, ag22, st27, Za1 (hcv _), Try.ntmps7, hres, hc0, Msg.cs, hl.own]
  simp only [Zbi, List.length_cons, List.length_nil, Nat.reduceAdd, Nat.reduceSub, List.replicate, List.cons_append, List.nil_append, Zaj, Zaz, Za3, Zae, Zao, Zbb, Zak, Za9, Zc0, List.getElem?_toArray, List.getElem?_cons_succ, List.getElem?_cons_zero, Option.bind_some, Nat.reduceLT, Nat.reduceLeDiff, ne_eq, reduceCtorEq, not_false_eq_true, implies_true, Bool.false_eq_true, Option.map_some, List.set_cons_succ, List.set_cons_zero, List.getD_cons_succ, List.getD_cons_zero, Zau, Zbo, List.any_cons, List.any_nil, Zb3, Bool.false_or, ↓reduceIte, Za2, Za0, Za6, Zam, Zd2, Za5, Za4, Zaf, Zaq, Zac, Zai, Zan, Zax, Zf6, Zei, Zd0, Zb0, Zab, Zaa, Zah, Zat, Zbm, Option.some.injEq, Zas, Zbg, hlen, Zad, Zb6, Zb5, Zb1, Zb9, Zbs, Zb2, Za8, Option.bind_eq_bind, Zag, Bool.or_self, Nat.add_zero, Nat.zero_add, Nat.succ_ne_zero, Zh0, Option.pure_def, Try.underlying9, sz9, sz22, sz24, ag9, ag22, st24, st27, Za1 (hcv _), Try.ntmps7, hres, hc0, Msg.cs, hl.own]

end Go.Abs

namespace Go.Abs
open Go Go.Proofs
def regIn (id : Nat) : Code → Option (Array Oper)
  | .region i ops _ => if i = id then some ops else none
  | .seq a b => (regIn id a).or (regIn id b)
  | .cond _ a b => (regIn id a).or (regIn id b)
  | .block _ a => regIn id a
  | .loop a => regIn id a
  | .scope a => regIn id a
  | .rangeFunc _ _ a b => (regIn id a).or (regIn id b)
  | _ => none
def Zhh (f : Func) (id : Nat) : Array Oper := ((f.body.bind (regIn id)).getD #[])
set_option maxRecDepth 100000
def plan6_5 : List Todo := [⟨0, false, false, 0, [], []⟩,
  ⟨1, false, false, 1, [], []⟩,
  ⟨2, false, false, 3, [], []⟩,
  ⟨3, false, false, 7, [], []⟩,
  ⟨4, false, false, 15, [], []⟩,
  ⟨5, false, false, 31, [], []⟩,
  ⟨6, false, false, 63, [], []⟩,
  ⟨7, false, false, 127, [], []⟩,
  ⟨8, false, false, 127, [], []⟩,
  ⟨9, true, false, 511, [2, 42, 3, 42], []⟩,
  ⟨10, false, true, 127, [], []⟩,
  ⟨11, false, true, 127, [], []⟩,
  ⟨12, true, false, 4095, [], []⟩,
  ⟨13, false, false, 8191, [], []⟩,
  ⟨14, false, false, 16383, [], []⟩,
  ⟨15, false, false, 32767, [], []⟩,
  ⟨16, true, false, 65535, [], []⟩,
  ⟨17, false, false, 131071, [], []⟩,
  ⟨18, true, false, 262143, [], []⟩]
theorem plan6_5_eq : Zgh (Zhh Try.f6 5) = some plan6_5 := by kernel_rfl
def plan8_8 : List Todo := [⟨0, false, false, 0, [], []⟩,
  ⟨1, false, false, 1, [], []⟩,
  ⟨2, false, false, 3, [], []⟩,
  ⟨3, false, false, 7, [], []⟩,
  ⟨4, false, false, 7, [], []⟩,
  ⟨5, true, false, 31, [], []⟩,
  ⟨6, false, false, 63, [], []⟩,
  ⟨7, false, false, 127, [], []⟩,
  ⟨8, false, false, 255, [], []⟩,
  ⟨9, false, false, 511, [], []⟩,
  ⟨10, false, false, 1023, [], []⟩,
  ⟨11, false, false, 2047, [], []⟩,
  ⟨12, false, true, 4095, [], []⟩,
  ⟨13, true, false, 4095, [3, 61], []⟩,
  ⟨14, true, false, 16383, [], []⟩,
  ⟨15, false, false, 32767, [], []⟩,
  ⟨16, false, false, 65535, [], []⟩,
  ⟨17, false, false, 131071, [], []⟩,
  ⟨18, false, false, 262143, [], []⟩,
  ⟨19, false, false, 524287, [], []⟩,
  ⟨20, false, false, 1048575, [], []⟩,
  ⟨21, false, false, 2097151, [], []⟩,
  ⟨22, false, true, 4194303, [], []⟩,
  ⟨23, false, false, 8388607, [], []⟩,
  ⟨24, false, false, 16777215, [], []⟩,
  ⟨25, false, false, 33554431, [], []⟩,
  ⟨26, false, false, 67108863, [], []⟩,
  ⟨27, false, false, 134217727, [], []⟩,
  ⟨28, false, false, 268435455, [], []⟩,
  ⟨29, false, false, 536870911, [], []⟩,
  ⟨30, false, true, 1073741823, [], []⟩,
  ⟨31, true, false, 1073741823, [7, 79], []⟩,
  ⟨32, true, false, 4294967295, [], []⟩,
  ⟨33, false, false, 8589934591, [], []⟩,
  ⟨34, false, false, 17179869183, [], []⟩,
  ⟨35, false, false, 34359738367, [], []⟩,
  ⟨36, false, false, 68719476735, [], []⟩,
  ⟨37, false, false, 137438953471, [], []⟩,
  ⟨38, false, false, 274877906943, [], []⟩,
  ⟨39, false, false, 549755813887, [], []⟩,
  ⟨40, false, false, 1099511627775, [], []⟩,
  ⟨41, false, false, 2199023255551, [], []⟩,
  ⟨42, false, false, 4398046511103, [], []⟩,
  ⟨43, false, false, 8796093022207, [], []⟩,
  ⟨44, false, false, 17592186044415, [], []⟩,
  ⟨45, false, false, 35184372088831, [], []⟩,
  ⟨46, false, false, 70368744177663, [], []⟩,
  ⟨47, true, false, 140737488355327, [], []⟩,
  ⟨48, false, false, 281474976710655, [], []⟩,
  ⟨49, false, false, 562949953421311, [], []⟩,
  ⟨50, true, false, 1125899906842623, [], []⟩]
theorem plan8_8_eq : Zgh (Zhh Try.f8 8) = some plan8_8 := by kernel_rfl
def plan10_7 : List Todo := [⟨0, false, true, 0, [], []⟩,
  ⟨1, true, false, 1, [4], []⟩,
  ⟨2, false, true, 0, [], []⟩,
  ⟨3, true, false, 7, [], []⟩,
  ⟨4, false, false, 15, [], []⟩,
  ⟨5, false, true, 31, [], []⟩,
  ⟨6, true, false, 63, [], []⟩,
  ⟨7, false, false, 127, [], []⟩,
  ⟨8, true, false, 255, [], []⟩]
theorem plan10_7_eq : Zgh (Zhh Try.f10 7) = some plan10_7 := by kernel_rfl
def plan12_5 : List Todo := [⟨0, false, true, 0, [], []⟩,
  ⟨1, true, false, 1, [1, 25], []⟩,
  ⟨2, false, false, 0, [], []⟩,
  ⟨3, false, true, 4, [], []⟩,
  ⟨4, false, true, 15, [], []⟩,
  ⟨5, true, false, 31, [], []⟩]
theorem plan12_5_eq : Zgh (Zhh Try.f12 5) = some plan12_5 := by kernel_rfl
def plan13_6 : List Todo := [⟨0, false, false, 0, [], []⟩,
  ⟨1, false, true, 1, [], []⟩,
  ⟨2, false, false, 0, [], []⟩,
  ⟨3, false, false, 7, [], []⟩,
  ⟨4, false, true, 15, [], []⟩,
  ⟨5, false, false, 0, [], []⟩,
  ⟨6, false, true, 32, [], []⟩,
  ⟨7, false, false, 0, [], []⟩,
  ⟨8, false, false, 224, [], []⟩,
  ⟨9, false, true, 480, [], []⟩,
  ⟨10, false, false, 1023, [], []⟩]
theorem plan13_6_eq : Zgh (Zhh Try.f13 6) = some plan13_6 := by kernel_rfl
def Zgx : List Todo := [⟨0, true, false, 0, [2, 36], []⟩,
  ⟨1, false, false, 0, [], []⟩,
  ⟨2, false, true, 2, [], []⟩,
  ⟨3, false, true, 7, [], []⟩,
  ⟨4, true, false, 15, [], []⟩]
theorem plan17_10_eq : Zgh (Zhh Try.f17 10) = some Zgx := by kernel_rfl
def plan24_4 : List Todo := [⟨0, false, false, 0, [], []⟩,
  ⟨1, true, false, 1, [], []⟩,
  ⟨2, false, false, 3, [], []⟩,
  ⟨3, false, false, 7, [], []⟩,
  ⟨4, false, false, 15, [], []⟩,
  ⟨5, false, false, 31, [], []⟩,
  ⟨6, false, false, 15, [], []⟩,
  ⟨7, false, false, 79, [], []⟩,
  ⟨8, false, false, 207, [], []⟩,
  ⟨9, false, false, 15, [], []⟩,
  ⟨10, false, false, 527, [], []⟩,
  ⟨11, false, false, 1999, [], []⟩,
  ⟨12, true, false, 4095, [], []⟩,
  ⟨13, false, false, 8191, [], []⟩,
  ⟨14, false, false, 16383, [], []⟩,
  ⟨15, false, false, 32767, [], []⟩,
  ⟨16, false, false, 65535, [], []⟩,
  ⟨17, false, false, 65535, [], []⟩,
  ⟨18, false, false, 196607, [], []⟩,
  ⟨19, false, false, 524287, [], []⟩,
  ⟨20, false, false, 65535, [], []⟩,
  ⟨21, false, false, 65535, [], []⟩,
  ⟨22, false, false, 2162687, [], []⟩,
  ⟨23, false, false, 7405567, [], []⟩,
  ⟨24, true, false, 15794175, [27, 27, 29, 27, 28, 30, 27], [0, 4]⟩,
  ⟨25, true, false, 32571391, [27, 27, 29, 27, 28, 30, 27], [0, 4]⟩,
  ⟨26, true, false, 67108863, [], []⟩,
  ⟨27, false, false, 134217727, [], []⟩,
  ⟨28, false, false, 268435455, [], []⟩,
  ⟨29, true, false, 536870911, [], []⟩]
theorem plan24_4_eq : Zgh (Zhh Try.f24 4) = some plan24_4 := by kernel_rfl
def plan25_3 : List Todo := [⟨0, false, false, 0, [], []⟩,
  ⟨1, false, true, 1, [], []⟩,
  ⟨2, false, false, 3, [], []⟩,
  ⟨3, false, false, 7, [], []⟩,
  ⟨4, false, false, 15, [], []⟩,
  ⟨5, false, true, 31, [], []⟩,
  ⟨6, false, false, 63, [], []⟩,
  ⟨7, false, false, 127, [], []⟩,
  ⟨8, false, true, 15, [], []⟩,
  ⟨9, true, false, 271, [1, 43, 44, 43, 45, 43, 46, 43], []⟩,
  ⟨10, false, false, 1023, [], []⟩,
  ⟨11, false, false, 2047, [], []⟩,
  ⟨12, false, false, 4095, [], []⟩,
  ⟨13, false, true, 8191, [], []⟩,
  ⟨14, true, false, 16383, [], []⟩,
  ⟨15, false, false, 32767, [], []⟩,
  ⟨16, false, false, 65535, [], []⟩]
theorem plan25_3_eq : Zgh (Zhh Try.f25 3) = some plan25_3 := by kernel_rfl
def plan30_2 : List Todo := [⟨0, false, false, 0, [], []⟩,
  ⟨1, false, false, 0, [], []⟩,
  ⟨2, false, false, 2, [], []⟩,
  ⟨3, true, false, 1, [7], [2]⟩,
  ⟨4, true, false, 15, [], []⟩]
theorem plan30_2_eq : Zgh (Zhh Try.f30 2) = some plan30_2 := by kernel_rfl
def plan40_9 : List Todo := [⟨0, false, false, 0, [], []⟩,
  ⟨1, false, false, 0, [], []⟩,
  ⟨2, false, false, 3, [], []⟩,
  ⟨3, false, true, 7, [], []⟩,
  ⟨4, false, false, 0, [], []⟩,
  ⟨5, false, false, 0, [], []⟩,
  ⟨6, false, false, 48, [], []⟩,
  ⟨7, false, true, 112, [], []⟩,
  ⟨8, false, false, 255, [], []⟩]
theorem plan40_9_eq : Zgh (Zhh Try.f40 9) = some plan40_9 := by kernel_rfl
def plan62_0 : List Todo := [⟨0, false, true, 0, [], []⟩,
  ⟨1, false, false, 0, [], []⟩,
  ⟨2, true, false, 2, [1], []⟩,
  ⟨3, false, false, 7, [], []⟩,
  ⟨4, false, false, 15, [], []⟩,
  ⟨5, true, false, 31, [], []⟩]
theorem plan62_0_eq : Zgh (Zhh Try.f62 0) = some plan62_0 := by kernel_rfl
def plan62_1 : List Todo := [⟨0, false, true, 0, [], []⟩,
  ⟨1, false, false, 0, [], []⟩,
  ⟨2, true, false, 2, [1], []⟩,
  ⟨3, false, false, 7, [], []⟩,
  ⟨4, false, false, 15, [], []⟩,
  ⟨5, true, false, 31, [], []⟩]
theorem plan62_1_eq : Zgh (Zhh Try.f62 1) = some plan62_1 := by kernel_rfl
def plan64_0 : List Todo := [⟨0, false, true, 0, [], []⟩,
  ⟨1, false, false, 0, [], []⟩,
  ⟨2, true, false, 2, [1], []⟩,
  ⟨3, false, false, 7, [], []⟩,
  ⟨4, false, false, 15, [], []⟩,
  ⟨5, true, false, 31, [], []⟩]
theorem plan64_0_eq : Zgh (Zhh Try.f64 0) = some plan64_0 := by kernel_rfl
def plan66_0 : List Todo := [⟨0, false, true, 0, [], []⟩,
  ⟨1, false, false, 0, [], []⟩,
  ⟨2, true, false, 2, [1], []⟩,
  ⟨3, false, false, 7, [], []⟩,
  ⟨4, false, false, 15, [], []⟩,
  ⟨5, false, false, 31, [], []⟩,
  ⟨6, true, false, 63, [], []⟩]
theorem plan66_0_eq : Zgh (Zhh Try.f66 0) = some plan66_0 := by kernel_rfl
def plan68_0 : List Todo := [⟨0, false, true, 0, [], []⟩,
  ⟨1, false, false, 0, [], []⟩,
  ⟨2, true, false, 2, [1], []⟩,
  ⟨3, false, false, 6, [], []⟩,
  ⟨4, false, false, 15, [], []⟩,
  ⟨5, false, false, 31, [], []⟩,
  ⟨6, true, false, 63, [], []⟩]
theorem plan68_0_eq : Zgh (Zhh Try.f68 0) = some plan68_0 := by kernel_rfl
def plan68_1 : List Todo := [⟨0, false, true, 0, [], []⟩,
  ⟨1, false, false, 0, [], []⟩,
  ⟨2, true, false, 2, [1], []⟩,
  ⟨3, false, false, 7, [], []⟩,
  ⟨4, false, false, 15, [], []⟩,
  ⟨5, true, false, 31, [], []⟩]
theorem plan68_1_eq : Zgh (Zhh Try.f68 1) = some plan68_1 := by kernel_rfl
def plan70_0 : List Todo := [⟨0, false, true, 0, [], []⟩,
  ⟨1, false, false, 0, [], []⟩,
  ⟨2, true, false, 2, [1], []⟩,
  ⟨3, false, false, 7, [], []⟩,
  ⟨4, false, false, 15, [], []⟩,
  ⟨5, true, false, 31, [], []⟩]
theorem plan70_0_eq : Zgh (Zhh Try.f70 0) = some plan70_0 := by kernel_rfl
def plan70_1 : List Todo := [⟨0, false, true, 0, [], []⟩,
  ⟨1, false, false, 0, [], []⟩,
  ⟨2, true, false, 2, [1], []⟩,
  ⟨3, false, false, 7, [], []⟩,
  ⟨4, false, false, 15, [], []⟩,
  ⟨5, true, false, 31, [], []⟩]
theorem plan70_1_eq : Zgh (Zhh Try.f70 1) = some plan70_1 := by kernel_rfl
def plan71_0 : List Todo := [⟨0, false, true, 0, [], []⟩,
  ⟨1, false, false, 0, [], []⟩,
  ⟨2, true, false, 2, [1], []⟩,
  ⟨3, false, false, 7, [], []⟩,
  ⟨4, false, false, 15, [], []⟩,
  ⟨5, true, false, 31, [], []⟩]
theorem plan71_0_eq : Zgh (Zhh Try.f71 0) = some plan71_0 := by kernel_rfl
def plan72_0 : List Todo := [⟨0, false, true, 0, [], []⟩,
  ⟨1, false, false, 0, [], []⟩,
  ⟨2, true, false, 2, [1], []⟩,
  ⟨3, false, false, 7, [], []⟩,
  ⟨4, false, false, 15, [], []⟩,
  ⟨5, true, false, 31, [], []⟩]
theorem plan72_0_eq : Zgh (Zhh Try.f72 0) = some plan72_0 := by kernel_rfl
def plan72_2 : List Todo := [⟨0, false, true, 0, [], []⟩,
  ⟨1, false, false, 0, [], []⟩,
  ⟨2, true, false, 2, [1], []⟩,
  ⟨3, false, false, 7, [], []⟩,
  ⟨4, false, false, 15, [], []⟩,
  ⟨5, true, false, 31, [], []⟩]
theorem plan72_2_eq : Zgh (Zhh Try.f72 2) = some plan72_2 := by kernel_rfl
def plan79_6 : List Todo := [⟨0, false, false, 0, [], []⟩,
  ⟨1, false, false, 0, [], []⟩,
  ⟨2, false, false, 3, [], []⟩,
  ⟨3, false, true, 7, [], []⟩,
  ⟨4, false, false, 0, [], []⟩,
  ⟨5, false, false, 0, [], []⟩,
  ⟨6, false, false, 48, [], []⟩,
  ⟨7, false, true, 112, [], []⟩,
  ⟨8, false, false, 255, [], []⟩]
theorem plan79_6_eq : Zgh (Zhh Try.f79 6) = some plan79_6 := by kernel_rfl
def plan81_3 : List Todo := [⟨0, false, false, 0, [], []⟩,
  ⟨1, false, false, 0, [], []⟩,
  ⟨2, false, false, 0, [], []⟩,
  ⟨3, false, false, 0, [], []⟩,
  ⟨4, false, false, 0, [], []⟩,
  ⟨5, false, false, 0, [], []⟩,
  ⟨6, false, false, 48, [], []⟩,
  ⟨7, false, true, 112, [], []⟩,
  ⟨8, false, false, 0, [], []⟩,
  ⟨9, false, false, 0, [], []⟩,
  ⟨10, false, false, 768, [], []⟩,
  ⟨11, false, true, 1792, [], []⟩,
  ⟨12, false, false, 4083, [], []⟩,
  ⟨13, true, false, 8179, [], [0, 3]⟩,
  ⟨14, false, false, 16383, [], []⟩,
  ⟨15, true, false, 32767, [], []⟩]
theorem plan81_3_eq : Zgh (Zhh Try.f81 3) = some plan81_3 := by kernel_rfl
def plan85_3 : List Todo := [⟨0, false, false, 0, [], []⟩,
  ⟨1, false, false, 0, [], []⟩,
  ⟨2, false, false, 2, [], []⟩,
  ⟨3, false, true, 6, [], []⟩,
  ⟨4, false, false, 14, [], []⟩,
  ⟨5, false, false, 30, [], []⟩,
  ⟨6, false, false, 63, [], []⟩,
  ⟨7, false, false, 0, [], []⟩,
  ⟨8, false, false, 0, [], []⟩,
  ⟨9, false, false, 256, [], []⟩,
  ⟨10, false, true, 768, [], []⟩,
  ⟨11, false, false, 1792, [], []⟩,
  ⟨12, false, false, 3840, [], []⟩,
  ⟨13, false, false, 8064, [], []⟩,
  ⟨14, true, false, 511, [26, 27, 28, 29, 25, 30], []⟩,
  ⟨15, true, false, 32767, [], []⟩]
theorem plan85_3_eq : Zgh (Zhh Try.f85 3) = some plan85_3 := by kernel_rfl
def plan85_4 : List Todo := [⟨0, false, false, 0, [], []⟩,
  ⟨1, false, false, 1, [], []⟩,
  ⟨2, false, false, 0, [], []⟩,
  ⟨3, true, false, 4, [32], [0]⟩,
  ⟨4, true, false, 15, [], []⟩,
  ⟨5, true, false, 31, [], []⟩,
  ⟨6, true, false, 63, [], []⟩]
theorem plan85_4_eq : Zgh (Zhh Try.f85 4) = some plan85_4 := by kernel_rfl
end Go.Abs

namespace Go.Abs
open Go Go.Proofs
set_option maxRecDepth 10000
set_option maxHeartbeats 1000000

theorem Zf9 {n : Int} (h1 : -9223372036854775808 ≤ n) (h2 : n ≤ 9223372036854775807) : IntKind.i64.wrap n = n := by
  rw [IntKind.wrap_i64]; omega

theorem w79 (a b : D) (xs ys : List Int) (ha : Rd a (isE xs)) (hb : Rd b (isE ys)) (hx : xs.length ≤ 1099511627776) (h : List O) : wc 79 [a, b] h = some (.val (.bool (decide (xs = ys))), h) := by
  have la : ∀ H, len0 Try.prog 22 a H = some xs.length := fun H => by rw [len0_of Try.underlying22 ha.sl]; simp [isE]
  have lb : ∀ H, len0 Try.prog 22 b H = some ys.length := fun H => by rw [len0_of Try.underlying22 hb.sl]; simp [isE]
  have hcv : ∀ i, wcv 79 i = [] := fun _ => rfl
  have hres : Try.f79.results.toList = [ResultVar.tmp 4] := rfl
  rw [wc, Zbt rfl Try.func79 rfl]
  simp only [Zbi, List.length_cons, List.length_nil, Nat.reduceAdd, Nat.reduceSub, List.replicate, List.cons_append, List.nil_append, Zaj, Za7, Za3, Zae, Zao, Zbb, Za9, List.getElem?_toArray, List.getElem?_cons_zero, Option.bind_some, ne_eq, reduceCtorEq, not_false_eq_true, implies_true, Option.map_some, List.set_cons_succ, List.set_cons_zero, List.getD_cons_succ, List.getD_cons_zero, Za2, Za0, Za6, Zaq, Zac, Zax, Zel, Ze0, Zd0, Option.bind_eq_bind, Nat.zero_add, Option.pure_def, Za1 (hcv _), Try.ntmps79, ha.ownD, hb.ownD, la, lb]
  by_cases hl : xs.length = ys.length
  rotate_left
  · have e1 : ((xs.length : Int) != (ys.length : Int)) = true := by simp; omega
    simp only [Zaj, Zaz, Zal, Za3, Zbr, Zae, Zao, Za9, ne_eq, reduceCtorEq, not_false_eq_true, implies_true, Option.map_some, List.set_cons_succ, List.set_cons_zero, List.getD_cons_succ, List.getD_cons_zero, Zau, Za0, Za4, Zaq, Zax, Zb0, Zab, Zaa, Zah, Zat, Zcn, Zbm, and_true, Option.some.injEq, Prod.mk.injEq, Za1 (hcv _), hres, e1]
    have : ¬ xs = ys := fun e => hl (by rw [e])
    simp [this]
  have e1 : ((xs.length : Int) != (ys.length : Int)) = false := by simp [hl]
  simp only [Zaj, Zbz, Zc3, Zar, Za3, Zae, Zao, Zbb, Za9, List.getElem?_toArray, List.getElem?_cons_zero, Option.bind_some, ne_eq, reduceCtorEq, not_false_eq_true, implies_true, Option.map_some, List.set_cons_succ, List.set_cons_zero, List.getD_cons_succ, List.getD_cons_zero, Za2, Zep, Zac, Zan, Zd0, Option.bind_eq_bind, Option.pure_def, Za1 (hcv _), e1, ha.ownD, la]
  refine Zfd (fun (n : Nat) (s : St) => ∃ i : Nat, (i + n = xs.length ∧ xs.take i = ys.take i) ∧ ∃ zs_, s = ⟨mkT [some (a), some (b), none, none, some (.e (.bool false)), none, none, none, none, none, none, none, some (.int .i64 xs.length), some (.int .i64 i), none, none, none, none, none, none, none, none, none, none, none, none] zs_ 0, [], .no, h⟩) ?_ (xs.length) ⟨0, ⟨by omega, by simp⟩, Zd7 rfl rfl rfl rfl⟩
  rintro n _ ⟨i, hf_l, zs_l, rfl⟩ IH_l
  obtain ⟨hn, ht⟩ := hf_l
  by_cases hi : i < xs.length
  rotate_left
  · have e2 : decide ((i : Int) < xs.length) = false := by simp; omega
    simp only [Nat.reduceAdd, Zaj, Zaz, Zfe, Za7, Zar, Za3, Zeg, Zeh, Zdu, Zae, Zao, Za9, ne_eq, reduceCtorEq, not_false_eq_true, implies_true, Option.map_some, List.set_cons_succ, List.set_cons_zero, List.getD_cons_succ, List.getD_cons_zero, Zau, ↓reduceIte, Za0, Za6, Za4, Zaq, Zac, Zax, Zc2, Zbv, Zb0, Zab, Zaa, Zah, Zat, Zcn, Zbm, and_true, Option.some.injEq, Prod.mk.injEq, mkT, Nat.zero_add, Za1 (hcv _), hres, e2]
    have : xs = ys := by
      rw [List.take_of_length_le (by omega), List.take_of_length_le (by omega)] at ht; exact ht
    simp [this]
  have e2 : decide ((i : Int) < xs.length) = true := by simp; omega
  have hxi : xs[i]? = some xs[i] := List.getElem?_eq_getElem hi
  have hyi : ys[i]? = some (ys[i]'(by omega)) := List.getElem?_eq_getElem (by omega)
  generalize xs[i] = x at hxi
  generalize ys[i]'(by omega) = y at hyi
  have ia : Zdr Try.prog 22 a (.e (.int .i64 i)) = some (.rptr [.int .i64 x] 0) := ix_of Try.underlying22 sz3 ha.sl (by omega) (by simp [isE, hxi]) rfl (by omega)
  have ib : Zdr Try.prog 22 b (.e (.int .i64 i)) = some (.rptr [.int .i64 y] 0) := ix_of Try.underlying22 sz3 hb.sl (by omega) (by simp [isE, hyi]) rfl (by omega)
  have hw : IntKind.i64.wrap ((i : Int) + 1) = ((i + 1 : Nat) : Int) := by rw [Zf9 (by omega) (by omega)]; omega
  simp only [Nat.reduceAdd, Zaj, Zbz, Zc3, Za7, Zal, Za3, Zae, Zao, Za9, ne_eq, reduceCtorEq, not_false_eq_true, implies_true, Option.map_some, List.set_cons_succ, List.set_cons_zero, List.getD_cons_succ, List.getD_cons_zero, Zau, Za2, Za0, Za6, Za4, Zac, Zc2, Zbv, mkT, Nat.zero_add, Za1 (hcv _), e2]
  refine (Zf8 (l := plan79_6) (by exact plan79_6_eq)).trans ?_
  simp only [List.length_cons, List.length_nil, Za7, Za3, List.getElem?_toArray, List.getElem?_cons_succ, List.getElem?_cons_zero, Option.bind_some, ne_eq, reduceCtorEq, not_false_eq_true, implies_true, Option.map_some, List.set_cons_succ, List.set_cons_zero, List.getD_cons_succ, List.getD_cons_zero, Zau, List.any_cons, List.any_nil, ↓reduceIte, Za6, Zbl, Zaf, Zac, Zel, Ze0, List.toList_toArray, Option.some.injEq, Ze5, kd_l, Zc5, Zc4, kd_r, Zcf, Zee, Zch, Zbn, Zc6, Zba, Zdg, Zcs, Zci, exLd_ro, Zbx, Zbw, Zg1, Zfl, Op.operands, Ze2, List.foldl_nil, Zdh, Zim, Bool.or_self, Nat.zero_add, Nat.le_refl, sz3, ag3, hcv, plan79_6, ha.ownD, hb.ownD, ia, ib]
  by_cases hxy : x = y
  · subst hxy
    have e3 : (x != x) = false := by simp
    simp only [Zbz, Zar, Za3, Zc8, Ze8, Zae, Zao, Za9, ne_eq, reduceCtorEq, not_false_eq_true, implies_true, Option.map_some, List.set_cons_succ, List.set_cons_zero, List.getD_cons_succ, List.getD_cons_zero, Zau, Za2, Za6, Zac, Zai, Zan, Zdf, Zcv, Za1 (hcv _), e3, hw]
    refine IH_l (xs.length - (i + 1)) _ (by omega) ⟨i + 1, ⟨by omega, by rw [List.take_add_one, List.take_add_one, ht, hxi, hyi]⟩, Zd7 rfl rfl rfl rfl⟩
  · have e3 : (x != y) = true := by simp [hxy]
    simp only [Zaj, Zaz, Zal, Za3, Zbr, Zcl, Zfy, Zae, Zao, Za9, ne_eq, reduceCtorEq, not_false_eq_true, implies_true, Option.map_some, List.set_cons_succ, List.set_cons_zero, List.getD_cons_succ, List.getD_cons_zero, Zau, Za0, Za4, Zaq, Zax, Zb0, Zab, Zaa, Zah, Zat, Zcn, Zbm, and_true, Option.some.injEq, Prod.mk.injEq, Za1 (hcv _), hres, e3]
    have : ¬ xs = ys := fun e => by subst e; rw [hxi] at hyi; cases hyi; exact hxy rfl
    simp [this]

end Go.Abs
