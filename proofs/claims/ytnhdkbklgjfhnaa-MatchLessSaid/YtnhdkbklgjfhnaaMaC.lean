/- MaC: part of the proof: a shadow of the machine that is proved sound, and what the functions of this seat compute. Conditions: none. -/
import Derived.Test.YtnhdkbklgjfhnaaMaB
import Derived.Test.YtnhdkbklgjfhnaaMaU
import Derived.Test.YtnhdkbklgjfhnaaShB
import Derived.Test.YtnhdkbklgjfhnaaRows
namespace Go.Sh.T
open Go Go.Sh
set_option linter.unusedSimpArgs false
set_option linter.unusedVariables false

structure Val where
  k : Int
  n : Int
  m : Int
  inn : Bool
  s : ByteArray
  df : ByteArray
  nd : Int
  types : List Ty
  labels : List ByteArray
  kids : List Val
structure Core where
  k : Int
  n : Int
  m : Int
  inn : Bool
  name : ByteArray
  df : ByteArray
  nd : Int
  types : List Ty
  labels : List ByteArray
  kids : List Core
  vals : List Val

mutual
def Val.cells : Val → List AV
  | ⟨k, n, m, b, s, d, e, ts, ls, xs⟩ => [.lit (.int .i64 k), .lit (.int .i64 n), .lit (.int .i64 m), .lit (.bool b), .lit (.string s), .lit (.string d), .lit (.int .i64 e), .sl 5 (ts.map Ty.cells), .sl 1 (ls.map strC), .sl 10 (Val.cellsL xs)]
def Val.cellsL : List Val → List (List AV)
  | [] => []
  | t :: r => t.cells :: Val.cellsL r
end
theorem Val.cellsL_map : ∀ l : List Val, Val.cellsL l = l.map Val.cells
  | [] => rfl
  | t :: r => by rw [Val.cellsL, Val.cellsL_map r]; rfl
theorem Val.cells_eq (t : Val) : t.cells = [.lit (.int .i64 t.k), .lit (.int .i64 t.n), .lit (.int .i64 t.m), .lit (.bool t.inn), .lit (.string t.s), .lit (.string t.df), .lit (.int .i64 t.nd), .sl 5 (t.types.map Ty.cells), .sl 1 (t.labels.map strC), .sl 10 (t.kids.map Val.cells)] := by
  cases t; rw [Val.cells, Val.cellsL_map]
mutual
def Core.cells : Core → List AV
  | ⟨k, n, m, b, s, d, e, ts, ls, xs, vs⟩ => [.lit (.int .i64 k), .lit (.int .i64 n), .lit (.int .i64 m), .lit (.bool b), .lit (.string s), .lit (.string d), .lit (.int .i64 e), .sl 5 (ts.map Ty.cells), .sl 1 (ls.map strC), .sl 11 (Core.cellsL xs), .sl 10 (vs.map Val.cells)]
def Core.cellsL : List Core → List (List AV)
  | [] => []
  | t :: r => t.cells :: Core.cellsL r
end
theorem Core.cellsL_map : ∀ l : List Core, Core.cellsL l = l.map Core.cells
  | [] => rfl
  | t :: r => by rw [Core.cellsL, Core.cellsL_map r]; rfl
theorem Core.cells_eq (t : Core) : t.cells = [.lit (.int .i64 t.k), .lit (.int .i64 t.n), .lit (.int .i64 t.m), .lit (.bool t.inn), .lit (.string t.name), .lit (.string t.df), .lit (.int .i64 t.nd), .sl 5 (t.types.map Ty.cells), .sl 1 (t.labels.map strC), .sl 11 (t.kids.map Core.cells), .sl 10 (t.vals.map Val.cells)] := by
  cases t; rw [Core.cells, Core.cellsL_map]

@[simp] theorem Val.cells_len (t : Val) : t.cells.length = 10 := by rw [Val.cells_eq]; rfl
@[simp] theorem Val.c0 (t : Val) : t.cells.getD 0 .dead = .lit (.int .i64 t.k) := by rw [Val.cells_eq]; rfl
@[simp] theorem Val.c1 (t : Val) : t.cells.getD 1 .dead = .lit (.int .i64 t.n) := by rw [Val.cells_eq]; rfl
@[simp] theorem Val.c2 (t : Val) : t.cells.getD 2 .dead = .lit (.int .i64 t.m) := by rw [Val.cells_eq]; rfl
@[simp] theorem Val.c3 (t : Val) : t.cells.getD 3 .dead = .lit (.bool t.inn) := by rw [Val.cells_eq]; rfl
@[simp] theorem Val.c4 (t : Val) : t.cells.getD 4 .dead = .lit (.string t.s) := by rw [Val.cells_eq]; rfl
@[simp] theorem Val.c5 (t : Val) : t.cells.getD 5 .dead = .lit (.string t.df) := by rw [Val.cells_eq]; rfl
@[simp] theorem Val.c6 (t : Val) : t.cells.getD 6 .dead = .lit (.int .i64 t.nd) := by rw [Val.cells_eq]; rfl
@[simp] theorem Val.c7 (t : Val) : t.cells.getD 7 .dead = .sl 5 (t.types.map Ty.cells) := by rw [Val.cells_eq]; rfl
@[simp] theorem Val.c8 (t : Val) : t.cells.getD 8 .dead = .sl 1 (t.labels.map strC) := by rw [Val.cells_eq]; rfl
@[simp] theorem Val.c9 (t : Val) : t.cells.getD 9 .dead = .sl 10 (t.kids.map Val.cells) := by rw [Val.cells_eq]; rfl
theorem Val.re (t : Val) : [t.cells.getD 0 .dead, t.cells.getD 1 .dead, t.cells.getD 2 .dead, t.cells.getD 3 .dead, t.cells.getD 4 .dead, t.cells.getD 5 .dead, t.cells.getD 6 .dead, t.cells.getD 7 .dead, t.cells.getD 8 .dead, t.cells.getD 9 .dead] = t.cells := by
  rw [Val.cells_eq]; rfl
@[simp] theorem Core.cells_len (t : Core) : t.cells.length = 11 := by rw [Core.cells_eq]; rfl
@[simp] theorem Core.c0 (t : Core) : t.cells.getD 0 .dead = .lit (.int .i64 t.k) := by rw [Core.cells_eq]; rfl
@[simp] theorem Core.c1 (t : Core) : t.cells.getD 1 .dead = .lit (.int .i64 t.n) := by rw [Core.cells_eq]; rfl
@[simp] theorem Core.c2 (t : Core) : t.cells.getD 2 .dead = .lit (.int .i64 t.m) := by rw [Core.cells_eq]; rfl
@[simp] theorem Core.c3 (t : Core) : t.cells.getD 3 .dead = .lit (.bool t.inn) := by rw [Core.cells_eq]; rfl
@[simp] theorem Core.c4 (t : Core) : t.cells.getD 4 .dead = .lit (.string t.name) := by rw [Core.cells_eq]; rfl
@[simp] theorem Core.c5 (t : Core) : t.cells.getD 5 .dead = .lit (.string t.df) := by rw [Core.cells_eq]; rfl
@[simp] theorem Core.c6 (t : Core) : t.cells.getD 6 .dead = .lit (.int .i64 t.nd) := by rw [Core.cells_eq]; rfl
@[simp] theorem Core.c7 (t : Core) : t.cells.getD 7 .dead = .sl 5 (t.types.map Ty.cells) := by rw [Core.cells_eq]; rfl
@[simp] theorem Core.c8 (t : Core) : t.cells.getD 8 .dead = .sl 1 (t.labels.map strC) := by rw [Core.cells_eq]; rfl
@[simp] theorem Core.c9 (t : Core) : t.cells.getD 9 .dead = .sl 11 (t.kids.map Core.cells) := by rw [Core.cells_eq]; rfl
@[simp] theorem Core.c10 (t : Core) : t.cells.getD 10 .dead = .sl 10 (t.vals.map Val.cells) := by rw [Core.cells_eq]; rfl
theorem Core.re (t : Core) : [t.cells.getD 0 .dead, t.cells.getD 1 .dead, t.cells.getD 2 .dead, t.cells.getD 3 .dead, t.cells.getD 4 .dead, t.cells.getD 5 .dead, t.cells.getD 6 .dead, t.cells.getD 7 .dead, t.cells.getD 8 .dead, t.cells.getD 9 .dead, t.cells.getD 10 .dead] = t.cells := by
  rw [Core.cells_eq]; rfl

inductive Val.Ok : Val → Prop
  | mk {t : Val} (hs : t.s.size ≤ maxLen) (hd : t.df.size ≤ maxLen) (htl : t.types.length ≤ maxLen) (hts : ∀ a ∈ t.types, a.Ok) (hl : t.labels.length ≤ maxLen) (hls : ∀ s ∈ t.labels, s.size ≤ maxLen) (ha : t.kids.length ≤ maxLen) (has : ∀ a ∈ t.kids, a.Ok) : t.Ok
inductive Core.Ok : Core → Prop
  | mk {t : Core} (hk : (Lit.int .i64 t.k).wf = true) (hn : (Lit.int .i64 t.n).wf = true) (hm : (Lit.int .i64 t.m).wf = true) (he : (Lit.int .i64 t.nd).wf = true) (hs : t.name.size ≤ maxLen) (hd : t.df.size ≤ maxLen) (htl : t.types.length ≤ maxLen) (hts : ∀ a ∈ t.types, a.Ok) (hl : t.labels.length ≤ maxLen) (hls : ∀ s ∈ t.labels, s.size ≤ maxLen) (ha : t.kids.length ≤ maxLen) (has : ∀ a ∈ t.kids, a.Ok) (hv : t.vals.length ≤ maxLen) (hvs : ∀ a ∈ t.vals, a.Ok) : t.Ok
theorem Val.Ok.len {t : Val} (h : t.Ok) : t.kids.length ≤ maxLen := by cases h with | mk _ _ _ _ _ _ ha _ => exact ha
theorem Val.Ok.kid {t : Val} (h : t.Ok) {a : Val} (ha : a ∈ t.kids) : a.Ok := by cases h with | mk _ _ _ _ _ _ _ has => exact has a ha
theorem Val.Ok.tlen {t : Val} (h : t.Ok) : t.types.length ≤ maxLen := by cases h with | mk _ _ ha _ _ _ _ _ => exact ha
theorem Val.Ok.ty {t : Val} (h : t.Ok) {a : Ty} (ha : a ∈ t.types) : a.Ok := by cases h with | mk _ _ _ has _ _ _ _ => exact has a ha
theorem Val.Ok.lab {t : Val} (h : t.Ok) : t.labels.length ≤ maxLen := by cases h with | mk _ _ _ _ ha _ _ _ => exact ha
theorem Val.Ok.str {t : Val} (h : t.Ok) : t.s.size ≤ maxLen := by cases h with | mk hs _ _ _ _ _ _ _ => exact hs
theorem Val.Ok.def {t : Val} (h : t.Ok) : t.df.size ≤ maxLen := by cases h with | mk _ hs _ _ _ _ _ _ => exact hs
theorem Core.Ok.len {t : Core} (h : t.Ok) : t.kids.length ≤ maxLen := by cases h with | mk _ _ _ _ _ _ _ _ _ _ ha _ _ _ => exact ha
theorem Core.Ok.kid {t : Core} (h : t.Ok) {a : Core} (ha : a ∈ t.kids) : a.Ok := by cases h with | mk _ _ _ _ _ _ _ _ _ _ _ has _ _ => exact has a ha
theorem Core.Ok.tlen {t : Core} (h : t.Ok) : t.types.length ≤ maxLen := by cases h with | mk _ _ _ _ _ _ ha _ _ _ _ _ _ _ => exact ha
theorem Core.Ok.ty {t : Core} (h : t.Ok) {a : Ty} (ha : a ∈ t.types) : a.Ok := by cases h with | mk _ _ _ _ _ _ _ has _ _ _ _ _ _ => exact has a ha
theorem Core.Ok.lab {t : Core} (h : t.Ok) : t.labels.length ≤ maxLen := by cases h with | mk _ _ _ _ _ _ _ _ ha _ _ _ _ _ => exact ha
theorem Core.Ok.str {t : Core} (h : t.Ok) : t.name.size ≤ maxLen := by cases h with | mk _ _ _ _ hs _ _ _ _ _ _ _ _ _ => exact hs
theorem Core.Ok.def {t : Core} (h : t.Ok) : t.df.size ≤ maxLen := by cases h with | mk _ _ _ _ _ hs _ _ _ _ _ _ _ _ => exact hs
theorem Val.size_kid {t : Val} {i : Nat} (hi : i < t.kids.length) : SizeOf.sizeOf t.kids[i] < SizeOf.sizeOf t := by
  have := List.sizeOf_lt_of_mem (List.getElem_mem hi)
  cases t; simp only [Val.mk.sizeOf_spec] at *; omega
theorem Core.size_kid {t : Core} {i : Nat} (hi : i < t.kids.length) : SizeOf.sizeOf t.kids[i] < SizeOf.sizeOf t := by
  have := List.sizeOf_lt_of_mem (List.getElem_mem hi)
  cases t; simp only [Core.mk.sizeOf_spec] at *; omega

/- strings: the same bytes, the same string -/
theorem toList_loop (s : ByteArray) : ∀ (m i : Nat) (r : List UInt8), s.size ≤ m + i → ByteArray.toList.loop s i r = r.reverse ++ s.data.toList.drop i
  | 0, i, r, h => by
    unfold ByteArray.toList.loop
    rw [if_neg (by omega), List.drop_of_length_le (show s.size ≤ i by omega), List.append_nil]
  | m + 1, i, r, h => by
    unfold ByteArray.toList.loop
    split
    · rename_i hi
      have hi' : i < s.data.toList.length := hi
      have e : s.get! i = s.data.toList[i]'hi' := by
        show s.data[i]! = _
        rw [getElem!_pos s.data i hi]; rfl
      rw [toList_loop s m (i + 1) _ (by omega), List.drop_eq_getElem_cons hi', e, List.reverse_cons, List.append_assoc]; rfl
    · rename_i hi
      rw [List.drop_of_length_le (show s.size ≤ i by omega), List.append_nil]
theorem toList_data (s : ByteArray) : s.toList = s.data.toList := by
  unfold ByteArray.toList
  rw [toList_loop s s.size 0 [] (by omega)]; rfl
theorem strEq_iff {a b : ByteArray} : strEq a b = true ↔ a = b := by
  unfold strEq
  rw [beq_iff_eq, toList_data, toList_data]
  constructor
  · intro h
    cases a; cases b
    rename_i x y
    cases x; cases y
    have h : (_ : List UInt8) = _ := h
    exact congrArg (fun l => ByteArray.mk (Array.mk l)) h
  · rintro rfl; rfl

/- the same types -/
theorem sameS_iff : ∀ (l m : List ByteArray), (decide (l.length = m.length) && sameS l m) = true ↔ l = m
  | [], [] => by simp [sameS]
  | [], y :: m => by simp
  | x :: l, [] => by simp
  | x :: l, y :: m => by
    have := sameS_iff l m
    rw [Bool.and_eq_true, decide_eq_true_iff] at this
    rw [Bool.and_eq_true, decide_eq_true_iff, sameS, Bool.and_eq_true, strEq_iff, List.cons.injEq, ← this]
    simp only [List.length_cons, Nat.add_right_cancel_iff]
    exact ⟨fun ⟨a, b, c⟩ => ⟨b, a, c⟩, fun ⟨b, a, c⟩ => ⟨a, b, c⟩⟩
mutual
theorem Ty.same_iff : ∀ t u : Ty, t.same u = true ↔ t = u
  | ⟨k, n, s, ls, xs⟩, ⟨k', n', s', ls', xs'⟩ => by
    have h1 := Ty.sameL_iff xs xs'
    have h2 := sameS_iff ls ls'
    rw [Ty.same]
    simp only [Bool.and_eq_true, decide_eq_true_iff, strEq_iff, Ty.mk.injEq, Bool.not_eq_true', bne_eq_false_iff_eq] at *
    rw [← h1, ← h2]
    constructor
    · rintro ⟨⟨⟨⟨⟨a, b⟩, c⟩, d⟩, e⟩, f⟩; exact ⟨a, b, c, d, e, f⟩
    · rintro ⟨a, b, c, d, e, f⟩; exact ⟨⟨⟨⟨⟨a, b⟩, c⟩, d⟩, e⟩, f⟩
theorem Ty.sameL_iff : ∀ l m : List Ty, (decide (l.length = m.length) && Ty.sameL l m) = true ↔ l = m
  | [], [] => by simp [Ty.sameL]
  | [], y :: m => by simp
  | x :: l, [] => by simp
  | x :: l, y :: m => by
    have h1 := Ty.same_iff x y
    have h2 := Ty.sameL_iff l m
    rw [Bool.and_eq_true, decide_eq_true_iff] at h2
    rw [Bool.and_eq_true, decide_eq_true_iff, Ty.sameL, Bool.and_eq_true, h1, List.cons.injEq, ← h2]
    simp only [List.length_cons, Nat.add_right_cancel_iff]
    exact ⟨fun ⟨a, b, c⟩ => ⟨b, a, c⟩, fun ⟨b, a, c⟩ => ⟨a, b, c⟩⟩
end

/-- Are they the same: the law's question. -/
noncomputable def eqd {α : Type} (a b : α) : Bool := @decide (a = b) (Classical.propDecidable _)
theorem eqd_iff {α : Type} {a b : α} : eqd a b = true ↔ a = b := by unfold eqd; exact @decide_eq_true_iff _ (Classical.propDecidable _)
theorem eqd_self {α : Type} (a : α) : eqd a a = true := eqd_iff.2 rfl
theorem eqd_f {α : Type} {a b : α} (h : a ≠ b) : eqd a b = false := by
  cases e : eqd a b with
  | false => rfl
  | true => exact absurd (eqd_iff.1 e) h
theorem Ty.same_eqd (t u : Ty) : t.same u = eqd t u := by rw [Bool.eq_iff_iff, Ty.same_iff, eqd_iff]
theorem strEq_eqd (a b : ByteArray) : strEq a b = eqd a b := by rw [Bool.eq_iff_iff, strEq_iff, eqd_iff]
theorem int_eqd (a b : Int) : (a == b) = eqd a b := by rw [Bool.eq_iff_iff, beq_iff_eq, eqd_iff]
theorem sameS_eqd (l m : List ByteArray) : (decide (l.length = m.length) && sameS l m) = eqd l m := by rw [Bool.eq_iff_iff, sameS_iff, eqd_iff]
theorem Val.eqd_eq (a b : Val) : eqd a b = (eqd a.k b.k && (eqd a.n b.n && (eqd a.m b.m && (eqd a.inn b.inn && (eqd a.s b.s && ((eqd a.df b.df && eqd a.nd b.nd) && (eqd a.types b.types && (eqd a.labels b.labels && eqd a.kids b.kids)))))))) := by
  rw [Bool.eq_iff_iff]
  simp only [Bool.and_eq_true, eqd_iff]
  cases a; cases b
  simp only [Val.mk.injEq]
  constructor
  · rintro ⟨a, b, c, d, e, f, g, h, i, j⟩; exact ⟨a, b, c, d, e, ⟨f, g⟩, h, i, j⟩
  · rintro ⟨a, b, c, d, e, ⟨f, g⟩, h, i, j⟩; exact ⟨a, b, c, d, e, f, g, h, i, j⟩
theorem Core.eqd_eq (a b : Core) : eqd a b = (eqd a.k b.k && (eqd a.n b.n && (eqd a.m b.m && (eqd a.inn b.inn && (eqd a.name b.name && ((eqd a.df b.df && eqd a.nd b.nd) && (eqd a.types b.types && (eqd a.labels b.labels && (eqd a.vals b.vals && eqd a.kids b.kids))))))))) := by
  rw [Bool.eq_iff_iff]
  simp only [Bool.and_eq_true, eqd_iff]
  cases a; cases b
  simp only [Core.mk.injEq]
  constructor
  · rintro ⟨a, b, c, d, e, f, g, h, i, j, k⟩; exact ⟨a, b, c, d, e, ⟨f, g⟩, h, i, k, j⟩
  · rintro ⟨a, b, c, d, e, ⟨f, g⟩, h, i, j, k⟩; exact ⟨a, b, c, d, e, f, g, h, i, k, j⟩
end Go.Sh.T

namespace Go.Sh.T
open Go Go.Sh
set_option linter.unusedSimpArgs false
set_option linter.unusedVariables false
set_option maxRecDepth 100000
theorem Ty.re (t : Ty) : [t.cells.getD 0 .dead, t.cells.getD 1 .dead, t.cells.getD 2 .dead, t.cells.getD 3 .dead, t.cells.getD 4 .dead] = t.cells := Ty.refold t
theorem int_ne (a b : Int) : (a != b) = !(eqd a b) := by rw [← int_eqd]; rfl
theorem neS (a b : ByteArray) : strBin .neq a b = some (.lit (.bool (!(eqd a b)))) := by
  have : strBin .neq a b = some (.lit (.bool (!(strEq a b)))) := (Eq.refl _).trans rfl
  rw [this, strEq_eqd]
theorem eqSt (a b : ByteArray) : strBin .eql a b = some (.lit (.bool (eqd a b))) := by
  have : strBin .eql a b = some (.lit (.bool (strEq a b))) := (Eq.refl _).trans rfl
  rw [this, strEq_eqd]
theorem same23 (t u : Ty) (h : Heap) (ok : t.Ok) : evw E 21 [.agg t.cells, .agg u.cells] h = some (.ret (.lit (.bool (eqd t u))), h) := by
  rw [same_spec t u h ok, Ty.same_eqd]
theorem same79e (l m : List ByteArray) (hl : l.length ≤ maxLen) (h : Heap) : evw E 43 [.sl 1 (l.map strC), .sl 1 (m.map strC)] h = some (.ret (.lit (.bool (eqd l m))), h) := by
  rw [same79 l m hl h, sameS_eqd]

/- ty.Same -/
theorem Ty.eqd_eq (a b : Ty) : eqd a b = (eqd a.k b.k && (eqd a.n b.n && (eqd a.name b.name && (eqd a.labels b.labels && eqd a.args b.args)))) := by
  rw [Bool.eq_iff_iff]
  simp only [Bool.and_eq_true, eqd_iff]
  cases a; cases b
  simp only [Ty.mk.injEq]
/- values -/
/- terms -/
end Go.Sh.T

/- Casts: the small functions of the program and of the reference. -/
namespace Go.Sh.T
open Go Go.Sh
set_option linter.unusedSimpArgs false
set_option linter.unusedVariables false
set_option maxRecDepth 100000

theorem b5 : Nat.beq 5 5 = true := rfl
theorem b10 : Nat.beq 10 10 = true := rfl
theorem b2 (x y : AV) : Nat.beq ([x, y] : List AV).length 2 = true := (Eq.refl _).trans rfl
theorem g1 (x y : AV) : ([x, y] : List AV).getD 1 .dead = y := (Eq.refl _).trans rfl
theorem t20 (x y : AV) : ([x, y] : List AV)[0]? = some x := (Eq.refl _).trans rfl
theorem t21 (x y : AV) : ([x, y] : List AV)[1]? = some y := (Eq.refl _).trans rfl
theorem eqlE (a b : Int) : intBin .eql .i64 a b = some (.lit (.bool (eqd a b))) := by rw [eqlI, int_eqd]
theorem neqE (a b : Int) : intBin .neq .i64 a b = some (.lit (.bool (!(eqd a b)))) := by rw [neqI, int_ne]

def zeroV : Val := ⟨0, 0, 0, false, ByteArray.empty, ByteArray.empty, 0, [], [], []⟩
def zeroT : Ty := ⟨0, 0, ByteArray.empty, [], []⟩
def dynT : Ty := ⟨5, 0, ByteArray.empty, [], []⟩
def unkT : Ty := ⟨7, 0, ByteArray.empty, [], [dynT, dynT]⟩
theorem zeroT_cells : zeroT.cells = [.lit (.int .i64 0), .lit (.int .i64 0), .lit (.string ByteArray.empty), .sl 1 [], .sl 5 []] := by rw [Ty.cells_eq]; rfl
theorem dynT_cells : dynT.cells = [.lit (.int .i64 5), .lit (.int .i64 0), .lit (.string ByteArray.empty), .sl 1 [], .sl 5 []] := by rw [Ty.cells_eq]; rfl
noncomputable def Val.fn (v : Val) : Bool := eqd v.k 5 || (eqd v.k 6 || eqd v.k 7)
noncomputable def Ty.loose (t : Ty) : Bool := eqd t.k 5 || eqd t.k 4

theorem dyn68 (h : Heap) : evw E 70 [] h = some (.ret (.agg dynT.cells), h) := by
  refine evw_run primsC 0 rfl rfl rfl ?_
  rw [nf70, dynT_cells]
theorem fun120 (a b : Ty) (h : Heap) : evw E 65 [.agg a.cells, .agg b.cells] h = some (.ret (.agg [.lit (.int .i64 7), .lit (.int .i64 0), .lit (.string ByteArray.empty), .sl 1 [], .sl 5 [a.cells, b.cells]]), h) := by
  refine evw_run primsC 0 rfl rfl rfl ?_
  rw [nf65]
  simp only [aggS, bind_some', Ty.cells_len, b5, condT, Ty.refold]
/- what comes: a value, or a label -/
inductive Got where
  | ok (v : Val)
  | bl (s : ByteArray) (n : Int)
abbrev labA (s : ByteArray) (n : Int) : AV := .agg [.lit (.string s), .lit (.int .i64 n)]
def Got.out : Got → Out
  | .ok v => .ret (.agg v.cells)
  | .bl s n => .pan (.ifc 110 (labA s n))
def Got.cells : Got → List AV
  | .ok v => v.cells ++ [.lit (.string ByteArray.empty), .lit (.int .i64 0), .lit (.bool true)]
  | .bl s n => zeroV.cells ++ [.lit (.string s), .lit (.int .i64 n), .lit (.bool false)]
theorem Got.cells_len (g : Got) : g.cells.length = 13 := by cases g <;> simp [Got.cells]

/- fields -/
def ix : List ByteArray → ByteArray → Option Nat
  | [], _ => none
  | x :: r, s => bif strEq x s then some 0 else (ix r s).map (· + 1)
theorem idxR_ix : ∀ (l : List ByteArray) (k : Nat) (s : ByteArray), idxR l k s = match ix l s with | some i => ((k + i : Nat) : Int) | none => -1
  | [], k, s => by rw [idxR, ix]
  | x :: r, k, s => by
    rw [idxR, ix]
    cases strEq x s with
    | true => rfl
    | false =>
      rw [cond_false, cond_false, show ((k : Int) + 1) = ((k + 1 : Nat) : Int) from rfl, idxR_ix r (k + 1) s]
      cases ix r s with
      | none => rfl
      | some i => show ((k + 1 + i : Nat) : Int) = ((k + (i + 1) : Nat) : Int); omega
noncomputable def fieldT (t : Ty) (s : ByteArray) : Option Ty := bif eqd t.k 8 then (ix t.labels s).bind fun i => t.args[i]? else none
noncomputable def fieldV (v : Val) (s : ByteArray) : Option Val := bif eqd v.k 4 then (ix v.labels s).bind fun i => v.kids[i]? else none

theorem fieldT_run (t : Ty) (s : ByteArray) (h : Heap) (r : R) (hr : ∀ a : Int, a = idxR t.labels 0 s → cond (!(eqd t.k 8)) (some (.ret (.tup [.agg zeroT.cells, .lit (.bool false)]), h)) (cond (decide (a < 0)) (some (.ret (.tup [.agg zeroT.cells, .lit (.bool false)]), h)) (cond (decide (a ≥ (t.args.length : Int))) (some (.ret (.tup [.agg zeroT.cells, .lit (.bool false)]), h)) ((indexA 5 (.sl 5 (t.args.map Ty.cells)) (.lit (.int .i64 a))).bind fun e => (partA true 5 0 e).bind fun v => (aggOf v).bind fun l => cond (Nat.beq l.length 5) (some (.ret (.tup [.agg [l.getD 0 .dead, l.getD 1 .dead, l.getD 2 .dead, l.getD 3 .dead, l.getD 4 .dead], .lit (.bool true)]), h)) none))) = r) :
    r = some (.ret (.tup [.agg ((fieldT t s).getD zeroT).cells, .lit (.bool (fieldT t s).isSome)]), h) := by
  rw [← hr _ rfl]
  have hix := idxR_ix t.labels 0 s
  rw [show ((0 : Nat) : Int) = 0 from rfl] at hix
  rw [hix]
  unfold fieldT
  cases eqd t.k 8 with
  | false => rfl
  | true =>
    rw [Bool.not_true, condF, cond_true]
    cases ix t.labels s with
    | none => rfl
    | some i =>
      show cond (decide (((0 + i : Nat) : Int) < 0)) _ (cond (decide (((0 + i : Nat) : Int) ≥ (t.args.length : Int))) _ ((indexA 5 _ (.lit (.int .i64 ((0 + i : Nat) : Int)))).bind _)) = _
      rw [Nat.zero_add, decide_eq_false (show ¬ (i : Int) < 0 by omega), condF, Option.bind_some]
      by_cases hi : i < t.args.length
      · rw [decide_eq_false (show ¬ (i : Int) ≥ (t.args.length : Int) by omega), condF, indexA_map _ _ _ _ hi, bind_some', partA_full (Ty.cells_len _), bind_some', aggS, bind_some', Ty.cells_len, b5, condT, Ty.refold, List.getElem?_eq_getElem hi]; rfl
      · rw [decide_eq_true (show (i : Int) ≥ (t.args.length : Int) by omega), condT, List.getElem?_eq_none (by omega)]; rfl
theorem field174 (t : Ty) (ok : t.Ok) (s : ByteArray) (h : Heap) : evw E 64 [.agg t.cells, .lit (.string s)] h = some (.ret (.tup [.agg ((fieldT t s).getD zeroT).cells, .lit (.bool (fieldT t s).isSome)]), h) := by
  refine evw_run primsC 0 rfl rfl rfl ?_
  rw [nf64]
  refine fieldT_run t s h _ fun a ha => ?_
  simp only [aggS, bind_some', Ty.cells_len, b5, condT, Ty.c0, Ty.c3, Ty.c4, index_prog _ ok.lab, onOut_ret, ← ha, bin_int, neqE, boolB, lssI, geqI, lenA24, List.length_map, zeroT_cells]
end Go.Sh.T

/- Bounds: what is found, and what is up. -/
namespace Go.Sh.T
open Go Go.Sh
set_option linter.unusedSimpArgs false
set_option linter.unusedVariables false
set_option maxRecDepth 100000

theorem b6 : Nat.beq 6 6 = true := rfl
theorem Bind.n0 (b : Bind) : b.cells.getD 0 .dead = .lit (.string b.name) := (Eq.refl _).trans rfl
theorem Bind.re (b : Bind) : [b.cells.getD 1 .dead, b.cells.getD 2 .dead, b.cells.getD 3 .dead, b.cells.getD 4 .dead, b.cells.getD 5 .dead] = b.ty.cells := Ty.refold b.ty
noncomputable def findB : List Bind → ByteArray → Option Ty
  | [], _ => none
  | b :: r, s => bif strEq b.name s then some b.ty else findB r s
theorem bfind38 (d : List Bind) (hd : d.length ≤ maxLen) (s : ByteArray) (h : Heap) : evw E 38 [.sl 6 (d.map Bind.cells), .lit (.string s)] h = some (.ret (.tup [.agg ((findB d s).getD zeroT).cells, .lit (.bool (findB d s).isSome)]), h) := by
  have hd : d.length ≤ 9223372036854775807 := hd
  have loop : ∀ (q i : Nat), i ≤ d.length → d.length < q + i → Lp38_0 (evw E) (d.length + 1) h q h (.lit (.string s)) (.lit (.int .i64 0)) (.lit (.int .i64 0)) (.lit (.string ByteArray.empty)) [] [] (.sl 6 (d.map Bind.cells)) (.lit (.int .i64 (d.length : Int))) (.lit (.int .i64 (i : Int))) = some (.ret (.tup [.agg ((findB (d.drop i) s).getD zeroT).cells, .lit (.bool (findB (d.drop i) s).isSome)]), h) := by
    intro q
    induction q with
    | zero => intro i h1 h2; omega
    | succ q ih =>
      intro i h1 h2
      rw [Lp38_0_succ, bin_int, lssI, bind_some', boolB, bind_some']
      by_cases hi : i < d.length
      · rw [ltT hi, condT, indexA_map _ _ _ _ hi, bind_some', partA_full (Bind.len _), bind_some', aggS, bind_some', Bind.len, b6, condT, Bind.n0, eqS, bind_some', boolB, bind_some', Bind.re, List.drop_eq_getElem_cons hi, findB]
        cases strEq (d[i]).name s with
        | true => rfl
        | false => rw [condF, cond_false, bin_int, addI, bind_some', incI (by omega)]; exact ih (i + 1) hi (by omega)
      · rw [ltF hi, condF, List.drop_of_length_le (by omega), findB, Option.getD_none, zeroT_cells]; rfl
  refine evw_run primsC (d.length + 1) rfl rfl rfl ?_
  rw [nf38, lenA22, bind_some', List.length_map]
  have := loop (d.length + 1) 0 (Nat.zero_le _) (by omega)
  rw [List.drop_zero] at this
  exact this
theorem names45 (d : List Bind) (hd : d.length ≤ 1000) (h : Heap) : evw E 45 [.sl 6 (d.map Bind.cells)] h = some (.ret (.sl 1 ((d.map Bind.name).map strC)), h) := by
  have loop : ∀ (q i : Nat), i ≤ d.length → d.length < q + i → Lp45_0 (evw E) (d.length + 1) h q h (.sl 6 (d.map Bind.cells)) (((d.take i).map Bind.name).map strC) (.lit (.int .i64 (i : Int))) = some (.ret (.sl 1 ((d.map Bind.name).map strC)), h) := by
    intro q
    induction q with
    | zero => intro i h1 h2; omega
    | succ q ih =>
      intro i h1 h2
      rw [Lp45_0_succ, lenA22, bind_some', List.length_map, bin_int, lssI, bind_some', boolB, bind_some']
      by_cases hi : i < d.length
      · have hl : ((((d.take i).map Bind.name).map strC).length + ([[(.lit (.string (d[i]).name) : AV)]] : List (List AV)).length) = i + 1 := by rw [List.length_map, List.length_map, List.length_take, Nat.min_eq_left (by omega)]; rfl
        have hn : (((d.take i).map Bind.name).map strC) ++ [[.lit (.string (d[i]).name)]] = ((d.take (i + 1)).map Bind.name).map strC := by
          rw [List.take_succ_eq_append_getElem hi, List.map_append, List.map_append]; rfl
        have hle : Nat.ble (i + 1) maxApp = true := by rw [Nat.ble_eq]; exact Nat.le_trans (show i + 1 ≤ 1000 by omega) (by decide)
        rw [ltT hi, condT, indexA_map _ _ _ _ hi, bind_some', Bind.len, show Nat.ble 0 6 = true from rfl, condT, Bind.p0, bind_some', show AV.one (.lit (.string (d[i]).name)) = true from rfl, condT, hl, hle, condT, hn, bin_int, addI, bind_some', incI (by omega)]
        exact ih (i + 1) hi (by omega)
      · rw [ltF hi, condF, List.take_of_length_le (by omega)]
  refine evw_run primsC (d.length + 1) rfl rfl rfl ?_
  rw [nf45]
  exact loop (d.length + 1) 0 (Nat.zero_le _) (by omega)
/-- A variable's bound; any other type itself. -/
noncomputable def upT (d : List Bind) (t : Ty) : Ty × Bool := bif eqd t.k 6 then (match findB d t.name with | some u => (u, true) | none => (t, false)) else (t, false)
theorem eT' (t : Ty) (op : BinOp) (k : Int) : binAV E op 3 (t.cells.getD 0 .dead) (.lit (.int .i64 k)) = intBin op .i64 t.k k := by rw [Ty.c0, bin_int]
theorem up40 (d : List Bind) (hd : d.length ≤ maxLen) (t : Ty) (h : Heap) : evw E 40 [.sl 6 (d.map Bind.cells), .agg t.cells] h = some (.ret (.tup [.agg (upT d t).1.cells, .lit (.bool (upT d t).2)]), h) := by
  refine evw_run primsC 0 rfl rfl rfl ?_
  rw [nf40, aggS, bind_some', Ty.cells_len, b5, condT, eT', neqE, bind_some', boolB, bind_some', Ty.refold]
  unfold upT
  cases eqd t.k 6 with
  | false => rfl
  | true =>
    rw [Bool.not_true, condF, cond_true, Ty.c2, bfind38 d hd, onOut_ret, tupS, bind_some', t20, bind_some', bind_some', t21, bind_some', aggS, bind_some', Ty.cells_len, b5, condT, boolB, bind_some', Ty.refold]
    cases findB d t.name with
    | none => rfl
    | some u => rfl
theorem findB_mem : ∀ {d : List Bind} {s : ByteArray} {u : Ty}, findB d s = some u → ∃ b ∈ d, b.ty = u
  | b :: r, s, u, h => by
    rw [findB] at h
    cases he : strEq b.name s with
    | true => rw [he, cond_true] at h; exact ⟨b, List.mem_cons_self, Option.some.inj h⟩
    | false =>
      rw [he, cond_false] at h
      obtain ⟨c, h1, h2⟩ := findB_mem h
      exact ⟨c, List.mem_cons_of_mem _ h1, h2⟩
theorem upT_ok {d : List Bind} (od : ∀ b ∈ d, b.Ok) {t : Ty} (ot : t.Ok) : (upT d t).1.Ok := by
  unfold upT
  cases eqd t.k 6 with
  | false => exact ot
  | true =>
    rw [cond_true]
    cases hf : findB d t.name with
    | none => exact ot
    | some u => obtain ⟨b, h1, h2⟩ := findB_mem hf; rw [← h2]; exact (od b h1).ty
theorem behind72 (d : List Bind) (hd : d.length ≤ maxLen) (od : ∀ b ∈ d, b.Ok) (t : Ty) (ot : t.Ok) (h : Heap) : evw E 72 [.sl 6 (d.map Bind.cells), .agg t.cells] h = some (.ret (.tup [.agg (upT d t).1.cells, .lit (.bool (t.right && (upT d t).1.right))]), h) := by
  refine evw_run primsC 0 rfl rfl rfl ?_
  rw [nf72, aggS, bind_some', Ty.cells_len, b5, condT, Ty.refold, up40 d hd, onOut_ret, tupS, bind_some', t20, bind_some', bind_some', t21, bind_some', aggS, bind_some', Ty.cells_len, b5, condT, pright_spec t _ ot, onOut_ret, boolB, bind_some', Ty.refold, pright_spec _ _ (upT_ok od ot), onOut_ret]
  cases t.right <;> rfl
end Go.Sh.T

/- Match: as which function, as which record. -/
namespace Go.Sh.T
open Go Go.Sh
set_option linter.unusedSimpArgs false
set_option linter.unusedVariables false
set_option maxRecDepth 100000

theorem evk {f : Nat} {args : List AV} {h : Heap} {r : Out × Heap} (k : Nat) (e : ev E k f args h = some r) : evw E f args h = some r := (evw_iff primsC).2 ⟨k, e⟩
theorem t30 (x y z : AV) : ([x, y, z] : List AV)[0]? = some x := (Eq.refl _).trans rfl
theorem t31 (x y z : AV) : ([x, y, z] : List AV)[1]? = some y := (Eq.refl _).trans rfl
theorem t32 (x y z : AV) : ([x, y, z] : List AV)[2]? = some z := (Eq.refl _).trans rfl
def fnT (a b : Ty) : Ty := ⟨7, 0, ByteArray.empty, [], [a, b]⟩
theorem fnT_cells (a b : Ty) : (fnT a b).cells = [.lit (.int .i64 7), .lit (.int .i64 0), .lit (.string ByteArray.empty), .sl 1 [], .sl 5 [a.cells, b.cells]] := by rw [Ty.cells_eq]; rfl
def recT1 (x : ByteArray) (u : Ty) : Ty := ⟨8, 0, ByteArray.empty, [x], [u]⟩
theorem recT1_cells (x : ByteArray) (u : Ty) : (recT1 x u).cells = [.lit (.int .i64 8), .lit (.int .i64 0), .lit (.string ByteArray.empty), .sl 1 [[.lit (.string x)]], .sl 5 [u.cells]] := by rw [Ty.cells_eq]; rfl
/-- As which function does a type serve? -/
noncomputable def funM (d : List Bind) (t : Ty) : Option Ty := bif t.right && (upT d t).1.right then (bif eqd (upT d t).1.k 5 then some (fnT (upT d t).1 (upT d t).1) else bif eqd (upT d t).1.k 7 then some (upT d t).1 else none) else none
theorem fun17 (d : List Bind) (hd : d.length ≤ maxLen) (od : ∀ b ∈ d, b.Ok) (t : Ty) (ot : t.Ok) (h : Heap) : evw E 17 [.sl 6 (d.map Bind.cells), .agg t.cells] h = some (.ret (.tup [.agg ((funM d t).getD zeroT).cells, .lit (.bool (funM d t).isSome)]), h) := by
  refine evw_run primsC 0 rfl rfl rfl ?_
  rw [nf17, aggS, bind_some', Ty.cells_len, b5, condT, Ty.refold, behind72 d hd od t ot, onOut_ret, tupS, bind_some', t20, bind_some', bind_some', t21, bind_some', aggS, bind_some', Ty.cells_len, b5, condT, notB, bind_some', boolB, bind_some', Ty.refold, eT', eT', eqlE, eqlE, bind_some', bind_some', boolB, boolB, bind_some', bind_some', fun120, onOut_ret, ← fnT_cells, aggS, bind_some', Ty.cells_len, b5, condT, Ty.refold, ← zeroT_cells]
  unfold funM
  cases t.right && (upT d t).1.right with
  | false => rfl
  | true =>
    cases eqd (upT d t).1.k 5 with
    | true => rfl
    | false => cases eqd (upT d t).1.k 7 <;> rfl
theorem sort100 (x a b c e g : AV) (h : Heap) : evw E 100 [.sl 6 [[x, a, b, c, e, g]], .fn 101 [] []] h = some (.ret (.tup []), h) := evk 8 (by kernel_rfl)
theorem rec62 (x : ByteArray) (u : Ty) (h : Heap) : evw E 62 [.sl 1 [[.lit (.string x)]], .sl 5 [u.cells]] h = some (.ret (bif kindR x == 1 then .tup [.agg (recT1 x u).cells, .lit (.bool true)] else .tup [.agg zeroT.cells, .lit (.bool false)]), h) := by
  have h93 := prising_spec [x] (show 1 ≤ maxLen by decide) h
  rw [show ([x] : List ByteArray).map strC = [[.lit (.string x)]] from rfl, show risingR [x] none = (kindR x == 1) from by simp [risingR, gapR]] at h93
  have l01 : binAV E .lss 3 (.lit (.int .i64 0)) (.lit (.int .i64 1)) = some (.lit (.bool true)) := (Eq.refl _).trans (by kernel_rfl)
  have l11 : binAV E .lss 3 (.lit (.int .i64 1)) (.lit (.int .i64 1)) = some (.lit (.bool false)) := (Eq.refl _).trans (by kernel_rfl)
  have n11 : binAV E .neq 3 (.lit (.int .i64 1)) (.lit (.int .i64 1)) = some (.lit (.bool false)) := (Eq.refl _).trans (by kernel_rfl)
  have a01 : binAV E .add 3 (.lit (.int .i64 0)) (.lit (.int .i64 1)) = some (.lit (.int .i64 1)) := (Eq.refl _).trans (by kernel_rfl)
  have i1 : ∀ e : List AV, indexA 1 (.sl 1 [e]) (.lit (.int .i64 0)) = some e := fun e => (Eq.refl _).trans rfl
  have i5 : ∀ e : List AV, indexA 5 (.sl 5 [e]) (.lit (.int .i64 0)) = some e := fun e => (Eq.refl _).trans rfl
  have i6 : ∀ e : List AV, indexA 6 (.sl 6 [e]) (.lit (.int .i64 0)) = some e := fun e => (Eq.refl _).trans rfl
  have le1 : lenA E 23 (.sl 1 [[.lit (.string x)]]) = some 1 := (lenA23 _).trans rfl
  have le2 : lenA E 24 (.sl 5 [u.cells]) = some 1 := (lenA24 _).trans rfl
  have le3 : ∀ e : List AV, lenA E 99 (.sl 6 [e]) = some 1 := fun e => (Eq.refl _).trans (by kernel_rfl)
  have p1 : partA false 1 0 [(.lit (.string x) : AV)] = some (.lit (.string x)) := (Eq.refl _).trans rfl
  have on1 : AV.one (.lit (.string x)) = true := rfl
  have hmx : Nat.ble 1 maxApp = true := by decide
  have ml : ∀ e : List AV, Nat.ble (([] : List (List AV)).length + ([e] : List (List AV)).length) maxApp = true := fun e => hmx
  have nn : ∀ e : List AV, ([] : List (List AV)) ++ [e] = [e] := fun e => rfl
  have hb : ([.lit (.string x), u.cells.getD 0 .dead, u.cells.getD 1 .dead, u.cells.getD 2 .dead, u.cells.getD 3 .dead, u.cells.getD 4 .dead] : List AV) = (Bind.mk x u).cells := by
    unfold Bind.cells; rw [show ([u.cells.getD 0 .dead, u.cells.getD 1 .dead, u.cells.getD 2 .dead, u.cells.getD 3 .dead, u.cells.getD 4 .dead] : List AV) = u.cells from Ty.refold u]
  have s100 : evw E 100 [.sl 6 [(Bind.mk x u).cells], .fn 101 [] []] h = some (.ret (.tup []), h) := by rw [← hb]; exact sort100 _ _ _ _ _ _ h
  refine evw_run primsC 2 rfl rfl rfl ?_
  rw [nf62, le1, bind_some', le2, bind_some', n11, bind_some', boolB, bind_some', condF, bind_some', Lp62_0_succ, l01, bind_some', boolB, bind_some', condT, i1, bind_some', p1, bind_some', i5, bind_some', partA_full (Ty.cells_len _), bind_some', on1, condT, aggS, bind_some', Ty.cells_len, b5, condT, ml, condT, a01, bind_some', nn, hb, Lp62_0_succ, l11, bind_some', boolB, bind_some', condF, s100, onOut_ret, le3, bind_some', Lp62_1_succ, l01, bind_some', boolB, bind_some', condT, i6, bind_some', partA_full (Bind.len _), bind_some', aggS, bind_some', Bind.len, b6, condT, Bind.n0, on1, condT, ml, condT, ml, condT, a01, bind_some', nn, nn, Bind.re, Lp62_1_succ, l11, bind_some', boolB, bind_some', condF, h93, onOut_ret, notB, bind_some', boolB, bind_some', ← zeroT_cells, show Ty.cells (Bind.ty ⟨x, u⟩) = u.cells from rfl, show Bind.name ⟨x, u⟩ = x from rfl, ← recT1_cells]
  cases kindR x == 1 <;> rfl
end Go.Sh.T

/- Right types, by parts; less. -/
namespace Go.Sh.T
open Go Go.Sh
set_option linter.unusedSimpArgs false
set_option linter.unusedVariables false
set_option maxRecDepth 100000

/-- Why a cast blames its own label at once. -/
theorem eqd_ne {α : Type} {a b : α} (h : eqd a b = false) : a ≠ b := fun e => by rw [e, eqd_self] at h; cases h
theorem eqdN {a b : Int} (h : a ≠ b) : eqd a b = false := eqd_f h
theorem dynT_loose : dynT.loose = true := by unfold Ty.loose; rw [show eqd dynT.k 5 = true from eqd_self _]; rfl
theorem dynT_right : dynT.right = true := by rw [Ty.right_eq]; decide +kernel
theorem eT (t : Ty) (op : BinOp) (k : Int) : binAV E op 3 (t.cells.getD 0 .dead) (.lit (.int .i64 k)) = intBin op .i64 t.k k := eT' t op k
theorem rightL_mem : ∀ {l : List Ty} {x : Ty}, Ty.rightL l = true → x ∈ l → x.right = true
  | y :: r, x, h, hx => by
    rw [Ty.rightL, Bool.and_eq_true] at h
    rcases List.mem_cons.1 hx with e | e
    · rw [e]; exact h.1
    · exact rightL_mem h.2 e
theorem right_fn {t : Ty} (h : t.right = true) (hk : t.k = 7) : t.args.length = 2 := by
  rw [Ty.right_eq, Bool.and_eq_true] at h
  have h2 := h.2
  unfold nodeR at h2
  rw [hk] at h2
  simp only [Bool.and_eq_true] at h2
  have h3 := h2.2
  simp only [show (decide ((7 : Int) ≥ 1) && decide ((7 : Int) ≤ 5)) = false from rfl, show ((7 : Int) == 6) = false from rfl, show ((7 : Int) == 9) = false from rfl, show ((7 : Int) == 7) = true from rfl, cond_false, cond_true, beq_iff_eq] at h3
  omega
theorem right_arg {t u : Ty} (h : t.right = true) (hu : u ∈ t.args) : u.right = true := by
  rw [Ty.right_eq, Bool.and_eq_true] at h
  exact rightL_mem h.1 hu
theorem fieldT_mem {t u : Ty} {x : ByteArray} (h : fieldT t x = some u) : u ∈ t.args ∧ t.k = 8 := by
  unfold fieldT at h
  cases hk : eqd t.k 8 with
  | false => rw [hk] at h; cases h
  | true =>
    rw [hk, cond_true, Option.bind_eq_some_iff] at h
    obtain ⟨i, _, h⟩ := h
    exact ⟨List.mem_of_getElem? h, eqd_iff.1 hk⟩
/-- One type is another one with some parts put out. -/
inductive Ls : Ty → Ty → Prop
  | dyn {a x : Ty} (h : x = dynT) : Ls a x
  | alike {a x : Ty} (hk : a.k = x.k) (hn : a.n = x.n) (hs : a.name = x.name) (hl : a.labels = x.labels) (ha : a.args.length = x.args.length) (h : ∀ (i : Nat) (t u : Ty), a.args[i]? = some t → x.args[i]? = some u → Ls t u) : Ls a x
theorem arg_size {t u : Ty} (hu : u ∈ t.args) : SizeOf.sizeOf u < SizeOf.sizeOf t := by
  have := List.sizeOf_lt_of_mem hu
  cases t; simp only [Ty.mk.sizeOf_spec] at *; omega
theorem rightL_of' : ∀ {l : List Ty}, (∀ x ∈ l, x.right = true) → Ty.rightL l = true
  | [], _ => by rw [Ty.rightL]
  | y :: r, h => by rw [Ty.rightL, h y List.mem_cons_self, rightL_of' fun x hx => h x (List.mem_cons_of_mem _ hx)]; rfl
theorem Ls.right {a x : Ty} (h : Ls a x) : a.right = true → x.right = true := by
  induction h with
  | dyn e => intro _; rw [e]; exact dynT_right
  | @alike a x hk hn hs hl ha h ih =>
    intro ra
    have ra' := ra
    rw [Ty.right_eq, Bool.and_eq_true] at ra'
    rw [Ty.right_eq, Bool.and_eq_true, ← hk, ← hn, ← hs, ← hl, ← ha]
    refine ⟨rightL_of' fun u hu => ?_, ra'.2⟩
    obtain ⟨i, hi⟩ := List.mem_iff_getElem?.1 hu
    have hi' : i < a.args.length := by have := (List.getElem?_eq_some_iff.1 hi).1; omega
    exact ih i _ u (List.getElem?_eq_getElem hi') hi (right_arg ra (List.getElem_mem hi'))
theorem Ls.kind {a x : Ty} (h : Ls a x) : x = dynT ∨ a.k = x.k := by
  cases h with
  | dyn e => exact .inl e
  | alike hk _ _ _ _ _ => exact .inr hk
theorem Ls.args {a x : Ty} (h : Ls a x) (hx : x.loose = false) : a.k = x.k ∧ a.labels = x.labels ∧ a.args.length = x.args.length ∧ ∀ (i : Nat) (t u : Ty), a.args[i]? = some t → x.args[i]? = some u → Ls t u := by
  cases h with
  | dyn e => rw [e, dynT_loose] at hx; cases hx
  | alike hk _ _ hl ha h => exact ⟨hk, hl, ha, h⟩
theorem dyn126 (t : Ty) (ot : t.Ok) (h : Heap) : evw E 75 [.agg t.cells] h = some (.ret (.lit (.bool (eqd t dynT))), h) := by
  refine evw_run primsC 0 rfl rfl rfl ?_
  rw [nf75]
  simp only [aggS, bind_some', Ty.cells_len, b5, condT, Ty.refold, dyn68, same23 t dynT _ ot, onOut_ret]
noncomputable def alikeB (a b : Ty) : Bool := eqd a.k b.k && (eqd a.n b.n && (eqd a.name b.name && (eqd a.labels b.labels && eqd a.args.length b.args.length)))
theorem alike127 (a b : Ty) (oa : a.Ok) (h : Heap) : evw E 76 [.agg a.cells, .agg b.cells] h = some (.ret (.lit (.bool (alikeB a b))), h) := by
  refine evw_run primsC 0 rfl rfl rfl ?_
  rw [nf76]
  have e1 : binAV E .eql 3 (a.cells.getD 0 .dead) (b.cells.getD 0 .dead) = some (.lit (.bool (eqd a.k b.k))) := by rw [Ty.c0, Ty.c0, bin_int, eqlE]
  have e2 : binAV E .eql 3 (a.cells.getD 1 .dead) (b.cells.getD 1 .dead) = some (.lit (.bool (eqd a.n b.n))) := by rw [Ty.c1, Ty.c1, bin_int, eqlE]
  have e3 : binAV E .eql 9 (a.cells.getD 2 .dead) (b.cells.getD 2 .dead) = some (.lit (.bool (eqd a.name b.name))) := by rw [Ty.c2, Ty.c2, bin_str, eqSt]
  have e4 : evw E 43 [a.cells.getD 3 .dead, b.cells.getD 3 .dead] h = some (.ret (.lit (.bool (eqd a.labels b.labels))), h) := by rw [Ty.c3, Ty.c3]; exact same79e _ _ oa.lab h
  have e5 : lenA E 24 (a.cells.getD 4 .dead) = some (a.args.length : Int) := by rw [Ty.c4, lenA24, List.length_map]
  have e6 : lenA E 24 (b.cells.getD 4 .dead) = some (b.args.length : Int) := by rw [Ty.c4, lenA24, List.length_map]
  have e7 : eqd (a.args.length : Int) (b.args.length : Int) = eqd a.args.length b.args.length := by rw [Bool.eq_iff_iff, eqd_iff, eqd_iff]; omega
  simp only [aggS, bind_some', Ty.cells_len, b5, condT, e1, e2, e3, e4, e5, e6, boolB, onOut_ret, bin_int, eqlE, e7]
  unfold alikeB
  cases eqd a.k b.k <;> cases eqd a.n b.n <;> cases eqd a.name b.name <;> cases eqd a.labels b.labels <;> rfl
theorem less70 : ∀ (m : Nat) (a b : Ty) (h : Heap), SizeOf.sizeOf a < m → a.Ok → b.Ok → ∃ c : Bool, evw E 23 [.agg a.cells, .agg b.cells] h = some (.ret (.lit (.bool c)), h) ∧ (c = true → Ls a b)
  | 0, a, b, h, hm, _, _ => by omega
  | m + 1, a, b, h, hm, oa, ob => by
    have ih := less70 m
    have la : a.args.length ≤ 9223372036854775807 := oa.len
    cases hd : eqd b dynT with
    | true =>
      refine ⟨true, evw_run primsC 0 rfl rfl rfl ?_, fun _ => .dyn (eqd_iff.1 hd)⟩
      rw [nf23]
      simp only [aggS, bind_some', Ty.cells_len, b5, condT, Ty.refold, dyn126 b ob, hd, onOut_ret, boolB]
    | false =>
    cases hk : alikeB a b with
    | false =>
      refine ⟨false, evw_run primsC 0 rfl rfl rfl ?_, fun e => by cases e⟩
      rw [nf23]
      simp only [aggS, bind_some', Ty.cells_len, b5, condT, condF, Ty.refold, dyn126 b ob, hd, alike127 a b oa, hk, onOut_ret, boolB, notB, Bool.not_false]
    | true =>
      have hk' := hk
      unfold alikeB at hk'
      simp only [Bool.and_eq_true, eqd_iff] at hk'
      obtain ⟨g1, g2, g3, g4, g5⟩ := hk'
      have loop : ∀ (q i : Nat), i ≤ a.args.length → a.args.length < q + i → ∃ c : Bool, Lp23_0 (evw E) (a.args.length + 1) h q h (a.cells.getD 0 .dead) (a.cells.getD 1 .dead) (a.cells.getD 2 .dead) (a.cells.getD 3 .dead) (a.cells.getD 4 .dead) (b.cells.getD 0 .dead) (b.cells.getD 1 .dead) (b.cells.getD 2 .dead) (b.cells.getD 3 .dead) (b.cells.getD 4 .dead) (.lit (.int .i64 (i : Int))) = some (.ret (.lit (.bool c)), h) ∧
          (c = true → ∀ (j : Nat) (t u : Ty), i ≤ j → a.args[j]? = some t → b.args[j]? = some u → Ls t u) := by
        intro q
        induction q with
        | zero => intro i h1 h2; omega
        | succ q ihq =>
          intro i h1 h2
          rw [Lp23_0_succ]
          simp only [Ty.c4, lenA24, bind_some', List.length_map, bin_int, lssI, boolB]
          by_cases hi : i < a.args.length
          · have hi2 : i < b.args.length := by omega
            obtain ⟨c, hc, hcb⟩ := ih a.args[i] b.args[i] h (by have := arg_size (List.getElem_mem hi); omega) (oa.arg (List.getElem_mem hi)) (ob.arg (List.getElem_mem hi2))
            rw [ltT hi, condT, ltT hi2, condT, indexA_map _ _ _ _ hi, bind_some', partA_full (Ty.cells_len _), bind_some', indexA_map _ _ _ _ hi2, bind_some', partA_full (Ty.cells_len _), bind_some', hc, onOut_ret, notB, bind_some', boolB, bind_some']
            cases c with
            | false => exact ⟨false, rfl, fun e => by cases e⟩
            | true =>
              rw [Bool.not_true, condF, addI, bind_some', incI (by omega)]
              obtain ⟨d, hd1, hd2⟩ := ihq (i + 1) hi (by omega)
              simp only [Ty.c4] at hd1
              refine ⟨d, hd1, fun e j t u hj e1 e2 => ?_⟩
              by_cases hji : j = i
              · rw [hji, List.getElem?_eq_getElem hi] at e1
                rw [hji, List.getElem?_eq_getElem hi2] at e2
                rw [← Option.some.inj e1, ← Option.some.inj e2]; exact hcb rfl
              · exact hd2 e j t u (by omega) e1 e2
          · rw [ltF hi, condF]
            exact ⟨true, rfl, fun _ j t u hj e1 _ => by have := (List.getElem?_eq_some_iff.1 e1).1; omega⟩
      obtain ⟨c, hc1, hc2⟩ := loop (a.args.length + 1) 0 (Nat.zero_le _) (by omega)
      have hc1 : Lp23_0 (evw E) (a.args.length + 1) h (a.args.length + 1) h (a.cells.getD 0 .dead) (a.cells.getD 1 .dead) (a.cells.getD 2 .dead) (a.cells.getD 3 .dead) (a.cells.getD 4 .dead) (b.cells.getD 0 .dead) (b.cells.getD 1 .dead) (b.cells.getD 2 .dead) (b.cells.getD 3 .dead) (b.cells.getD 4 .dead) (.lit (.int .i64 0)) = some (.ret (.lit (.bool c)), h) := hc1
      refine ⟨c, evw_run primsC (a.args.length + 1) rfl rfl rfl ?_, fun e => .alike g1 g2 g3 g4 g5 fun i t u => hc2 e i t u (Nat.zero_le _)⟩
      rw [nf23]
      simp only [aggS, bind_some', Ty.cells_len, b5, condT, condF, Ty.refold, dyn126 b ob, hd, alike127 a b oa, hk, onOut_ret, boolB, notB, Bool.not_true, hc1]
/-- The same, but for functions. -/
theorem Ls.refl' : ∀ (m : Nat) (a : Ty), SizeOf.sizeOf a < m → Ls a a
  | 0, a, h => by omega
  | m + 1, a, h => .alike rfl rfl rfl rfl rfl fun i t u h1 h2 => by
    rw [h1] at h2
    rw [← Option.some.inj h2]
    have := arg_size (List.mem_of_getElem? h1)
    exact Ls.refl' m t (by omega)
theorem Ls.refl (a : Ty) : Ls a a := Ls.refl' _ a (Nat.lt_succ_self _)
end Go.Sh.T

/- The law MatchServes. -/
namespace Go.Sh.T
open Go Go.Sh
set_option linter.unusedSimpArgs false
set_option linter.unusedVariables false
set_option maxRecDepth 100000

theorem recT1_ok {x : ByteArray} (hx : x.size ≤ maxLen) {u : Ty} (ou : u.Ok) : (recT1 x u).Ok := .mk (show (Lit.int .i64 8).wf = true by decide) (show (Lit.int .i64 0).wf = true by decide) (Nat.zero_le _) (show 1 ≤ maxLen by decide) (fun s h => by
  have : s ∈ [x] := h
  rw [List.mem_singleton.1 this]; exact hx) (show 1 ≤ maxLen by decide) (fun s h => by
  have : s ∈ [u] := h
  rw [List.mem_singleton.1 this]; exact ou)
theorem fnT_ok {a b : Ty} (oa : a.Ok) (ob : b.Ok) : (fnT a b).Ok := .mk (show (Lit.int .i64 7).wf = true by decide) (show (Lit.int .i64 0).wf = true by decide) (Nat.zero_le _) (Nat.zero_le _) (fun _ h => by cases h) (show 2 ≤ maxLen by decide) (fun s h => by
  have : s ∈ [a, b] := h
  rcases List.mem_cons.1 this with e | e
  · rw [e]; exact oa
  · rw [List.mem_singleton.1 e]; exact ob)
theorem fnT_right {a b : Ty} (ra : a.right = true) (rb : b.right = true) : (fnT a b).right = true := by
  rw [Ty.right_eq, show (fnT a b).args = [a, b] from rfl, Ty.rightL, Ty.rightL, Ty.rightL, ra, rb]
  show nodeR 7 0 ByteArray.empty [] 2 = true
  decide +kernel
theorem recT1_right {x : ByteArray} (hx : (kindR x == 1) = true) {u : Ty} (ru : u.right = true) : (recT1 x u).right = true := by
  rw [Ty.right_eq, show (recT1 x u).args = [u] from rfl, Ty.rightL, Ty.rightL, ru]
  show nodeR 8 0 ByteArray.empty [x] 1 = true
  unfold nodeR
  rw [show risingR [x] none = (kindR x == 1) from by simp [risingR, gapR], hx, show emptyS ByteArray.empty = true from by decide +kernel]
  rfl
theorem fieldT_rec1 (x : ByteArray) (u : Ty) : fieldT (recT1 x u) x = some u := by
  unfold fieldT
  rw [show eqd (recT1 x u).k 8 = true from eqd_self _, cond_true, show (recT1 x u).labels = [x] from rfl, ix, show strEq x x = true from by unfold strEq; simp]
  rfl
/-- As which record does it serve, and what is the field's type? -/
noncomputable def fieldM (d : List Bind) (t : Ty) (x : ByteArray) : Option (Ty × Ty) := bif (t.right && (upT d t).1.right) && (kindR x == 1) then (bif eqd (upT d t).1.k 5 then some (recT1 x (upT d t).1, (upT d t).1) else bif eqd (upT d t).1.k 8 then (fieldT (upT d t).1 x).map (fun f => ((upT d t).1, f)) else none) else none
theorem field19 (d : List Bind) (hd : d.length ≤ maxLen) (od : ∀ b ∈ d, b.Ok) (t : Ty) (ot : t.Ok) (x : ByteArray) (hx : x.size ≤ maxLen) (h : Heap) : evw E 19 [.sl 6 (d.map Bind.cells), .agg t.cells, .lit (.string x)] h = some (.ret (.tup [.agg ((fieldM d t x).getD (zeroT, zeroT)).1.cells, .agg ((fieldM d t x).getD (zeroT, zeroT)).2.cells, .lit (.bool (fieldM d t x).isSome)]), h) := by
  have ou := upT_ok od ot
  refine evw_run primsC 0 rfl rfl rfl ?_
  rw [nf19, aggS, bind_some', Ty.cells_len, b5, condT, Ty.refold, behind72 d hd od t ot, onOut_ret, tupS, bind_some', t20, bind_some', bind_some', t21, bind_some', aggS, bind_some', Ty.cells_len, b5, condT, notB, bind_some', boolB, bind_some', Ty.refold, ← zeroT_cells, pfine_spec, onOut_ret, notB, bind_some', boolB, bind_some', eT, eqlE, bind_some', boolB, bind_some', eT, eqlE, bind_some', boolB, bind_some', show AV.one (.lit (.string x)) = true from rfl, condT]
  unfold fieldM
  generalize (upT d t).1 = u at *
  cases t.right && u.right with
  | false => rfl
  | true =>
  rw [Bool.not_true, condF, Bool.true_and]
  have hrec := rec62 x u h
  cases hk : kindR x == 1 with
  | false => rfl
  | true =>
  rw [hk, cond_true] at hrec
  rw [Bool.not_true, condF, cond_true]
  cases eqd u.k 5 with
  | true =>
    have hf := field174 (recT1 x u) (recT1_ok hx ou) x h
    rw [fieldT_rec1] at hf
    have re5 : ([u.cells.getD 0 .dead, u.cells.getD 1 .dead, u.cells.getD 2 .dead, u.cells.getD 3 .dead, u.cells.getD 4 .dead] : List AV) = u.cells := Ty.refold u
    rw [condT, hrec, onOut_ret, tupS, bind_some', t20, bind_some', bind_some', t21, bind_some', aggS, bind_some', Ty.cells_len, b5, condT, Ty.refold, hf, onOut_ret, tupS, bind_some', t20, bind_some', bind_some', t21, bind_some', aggS, bind_some', Ty.cells_len, b5, condT, boolB, bind_some', Ty.refold]
    rfl
  | false =>
    rw [condF, cond_false]
    cases eqd u.k 8 with
    | false => rfl
    | true =>
      rw [condT, cond_true, field174 u ou x, onOut_ret, tupS, bind_some', t20, bind_some', bind_some', t21, bind_some', aggS, bind_some', Ty.cells_len, b5, condT, boolB, bind_some', Ty.refold]
      cases fieldT u x <;> rfl

/- the reference's bounds: right -/
theorem take22 (d : List Bind) (i : Nat) (h : i ≤ d.length) : sliceA E 22 (.sl 6 (d.map Bind.cells)) none (some (.lit (.int .i64 (i : Int)))) = some (.sl 6 ((d.take i).map Bind.cells)) := by
  have e1 : isStr E 22 = false := by kernel_rfl
  have e2 : elemSize E 22 = some 6 := by kernel_rfl
  unfold sliceA
  simp only [e1, e2, condF, bndO, intOf, slOf, Option.bind_some, show Nat.beq 6 6 = true from rfl, condT, List.length_map]
  rw [decide_eq_true (show (0 : Int) ≤ 0 by omega), decide_eq_true (show (0 : Int) ≤ (i : Int) by omega), decide_eq_true (show (i : Int) ≤ (d.length : Int) by omega)]
  simp only [Bool.true_and, condT, Int.toNat_natCast]
  rw [List.map_take]; rfl
theorem right15 (d : List Bind) (hd : d.length ≤ 1000) (od : ∀ b ∈ d, b.Ok) (h : Heap) : ∃ c : Bool, evw E 15 [.sl 6 (d.map Bind.cells)] h = some (.ret (.lit (.bool c)), h) ∧ (c = true → ∀ b ∈ d, b.ty.right = true) := by
  have loop : ∀ (q i : Nat), i ≤ d.length → d.length < q + i → ∃ c : Bool, Lp15_0 (evw E) (d.length + 1) h q h (.sl 6 (d.map Bind.cells)) (.lit (.int .i64 (i : Int))) = some (.ret (.lit (.bool c)), h) ∧ (c = true → ∀ (j : Nat) (b : Bind), i ≤ j → d[j]? = some b → b.ty.right = true) := by
    intro q
    induction q with
    | zero => intro i h1 h2; omega
    | succ q ih =>
      intro i h1 h2
      rw [Lp15_0_succ, lenA22, bind_some', List.length_map, bin_int, lssI, bind_some', boolB, bind_some']
      by_cases hi : i < d.length
      · have ob := od _ (List.getElem_mem hi)
        have hpl := place_ref ((d.take i).map Bind.name) (by rw [List.length_map, List.length_take]; exact Nat.le_trans (Nat.min_le_right _ _) (Nat.le_trans hd (by decide))) (d[i]).name h
        have hnm := names45 (d.take i) (by rw [List.length_take]; omega) h
        rw [ltT hi, condT, indexA_map _ _ _ _ hi, bind_some', Bind.len, show Nat.ble 1 6 = true from rfl, condT, Bind.p1, bind_some', aggS, bind_some', Ty.cells_len, b5, condT, bind_some', Bind.len, show Nat.ble 0 6 = true from rfl, condT, Bind.p0, bind_some', var_spec, onOut_ret, notB, bind_some', boolB, bind_some', take22 d i h1, bind_some', hnm, onOut_ret, bind_some', Bind.len, show Nat.ble 0 6 = true from rfl, condT, Bind.p0, bind_some', hpl, onOut_ret, bin_int, geqI, bind_some', boolB, bind_some', Ty.refold, right_spec _ _ ob.ty, onOut_ret, notB, bind_some', boolB, bind_some', closed_spec _ _ ob.ty, onOut_ret, notB, bind_some', boolB, bind_some', has_spec _ _ _ ob.ty, onOut_ret, boolB, bind_some']
        cases kindR (d[i]).name == 2 with
        | false => exact ⟨false, rfl, fun e => by cases e⟩
        | true =>
        cases decide (idxR ((d.take i).map Bind.name) 0 (d[i]).name ≥ 0) with
        | true => exact ⟨false, rfl, fun e => by cases e⟩
        | false =>
        cases hr : (d[i]).ty.right with
        | false => exact ⟨false, rfl, fun e => by cases e⟩
        | true =>
        cases (d[i]).ty.has 6 with
        | true => exact ⟨false, rfl, fun e => by cases e⟩
        | false =>
        cases (d[i]).ty.has 9 with
        | true => exact ⟨false, rfl, fun e => by cases e⟩
        | false =>
          obtain ⟨c, h3, h4⟩ := ih (i + 1) hi (by omega)
          refine ⟨c, ?_, fun e j b hj hb => ?_⟩
          · simp only [Bool.not_true, Bool.not_false, condT, condF, bin_int, addI, bind_some', incI (show i < 9223372036854775807 by omega)]
            exact h3
          · by_cases hji : j = i
            · rw [hji, List.getElem?_eq_getElem hi] at hb
              rw [← Option.some.inj hb]; exact hr
            · exact h4 e j b (by omega) hb
      · rw [ltF hi, condF]
        exact ⟨true, rfl, fun _ j b hj hb => by have := (List.getElem?_eq_some_iff.1 hb).1; omega⟩
  obtain ⟨c, h1, h2⟩ := loop (d.length + 1) 0 (Nat.zero_le _) (by omega)
  refine ⟨c, evw_run primsC (d.length + 1) rfl rfl rfl (by rw [nf15]; exact h1), fun e b hb => ?_⟩
  obtain ⟨j, hj⟩ := List.mem_iff_getElem?.1 hb
  exact h2 e j b (Nat.zero_le _) hj

/- may be below: itself -/
end Go.Sh.T

namespace Go.Sh.T
open Go Go.Sh
set_option maxRecDepth 100000
theorem awake16 : evw E 16 [] [] = some (.ret (.lit (.bool true)), []) := evk 60 (by kernel_rfl)
end Go.Sh.T

/- The law MatchServes. -/
namespace Go.Sh.T
open Go Go.Sh
set_option linter.unusedSimpArgs false
set_option linter.unusedVariables false
set_option maxRecDepth 100000

theorem few16_len {l : List Bind} (h : ¬ few16 l > 100) : l.length ≤ 20 := by
  by_cases h1 : l.length ≤ 20
  · exact h1
  · exfalso; apply h
    unfold few16
    rw [decide_eq_true (show (l.length : Int) > 20 by omega)]
    show (5000 : Int) > 100
    decide

noncomputable def small14 (d : List Bind) (t : Ty) : Bool := decide (t.much ≤ 300) && decide (few16 d ≤ 60)
theorem small_spec (d : List Bind) (hd : d.length ≤ maxLen) (od : ∀ b ∈ d, b.Ok) (t : Ty) (ot : t.Ok) (h : Heap) : evw E 14 [.sl 6 (d.map Bind.cells), .agg t.cells] h = some (.ret (.lit (.bool (small14 d t))), h) := by
  refine evw_run primsC 0 rfl rfl rfl ?_
  rw [nf14, aggS, bind_some', Ty.cells_len, b5, condT, Ty.refold, much_spec t _ ot, onOut_ret, bin_int, leqI, bind_some', boolB, bind_some', few16_spec d hd od, onOut_ret, bin_int, leqI, bind_some']
  unfold small14
  cases decide (t.much ≤ 300) <;> rfl
theorem funM_some {d : List Bind} {t f : Ty} (h : funM d t = some f) : t.right = true ∧ (upT d t).1.right = true ∧ f.k = 7 ∧ ((upT d t).1.k = 5 ∨ f = (upT d t).1) ∧ f.right = true ∧ ((upT d t).1.k = 5 → f = fnT (upT d t).1 (upT d t).1) := by
  unfold funM at h
  cases hr : t.right && (upT d t).1.right with
  | false => rw [hr] at h; cases h
  | true =>
    rw [hr, cond_true] at h
    rw [Bool.and_eq_true] at hr
    cases h5 : eqd (upT d t).1.k 5 with
    | true =>
      rw [h5, cond_true] at h
      have h := Option.some.inj h
      refine ⟨hr.1, hr.2, by rw [← h]; rfl, .inl (eqd_iff.1 h5), by rw [← h]; exact fnT_right hr.2 hr.2, fun _ => h.symm⟩
    | false =>
      rw [h5, cond_false] at h
      cases h7 : eqd (upT d t).1.k 7 with
      | false => rw [h7] at h; cases h
      | true =>
        rw [h7, cond_true] at h
        have h := Option.some.inj h
        exact ⟨hr.1, hr.2, by rw [← h]; exact eqd_iff.1 h7, .inr h.symm, by rw [← h]; exact hr.2, fun e => absurd e (eqd_ne h5)⟩
theorem fieldM_some {d : List Bind} {t r g : Ty} {x : ByteArray} (h : fieldM d t x = some (r, g)) : t.right = true ∧ (upT d t).1.right = true ∧ r.k = 8 ∧ ((upT d t).1.k = 5 ∨ r = (upT d t).1) ∧ r.right = true ∧ fieldT r x = some g ∧ ((upT d t).1.k = 5 → g = (upT d t).1) ∧ (kindR x == 1) = true := by
  unfold fieldM at h
  cases hr : (t.right && (upT d t).1.right) && (kindR x == 1) with
  | false => rw [hr] at h; cases h
  | true =>
    rw [hr, cond_true] at h
    rw [Bool.and_eq_true, Bool.and_eq_true] at hr
    cases h5 : eqd (upT d t).1.k 5 with
    | true =>
      rw [h5, cond_true] at h
      have h := Option.some.inj h
      have h1 : recT1 x (upT d t).1 = r := congrArg Prod.fst h
      have h2 : (upT d t).1 = g := congrArg Prod.snd h
      refine ⟨hr.1.1, hr.1.2, by rw [← h1]; rfl, .inl (eqd_iff.1 h5), by rw [← h1]; exact recT1_right hr.2 hr.1.2, by rw [← h1, fieldT_rec1, h2], fun _ => h2.symm, hr.2⟩
    | false =>
      rw [h5, cond_false] at h
      cases h8 : eqd (upT d t).1.k 8 with
      | false => rw [h8] at h; cases h
      | true =>
        rw [h8, cond_true, Option.map_eq_some_iff] at h
        obtain ⟨c, e1, e2⟩ := h
        have h1 : (upT d t).1 = r := congrArg Prod.fst e2
        have h2 : c = g := congrArg Prod.snd e2
        exact ⟨hr.1.1, hr.1.2, by rw [← h1]; exact eqd_iff.1 h8, .inr h1.symm, by rw [← h1]; exact hr.1.2, by rw [← h1, ← h2]; exact e1, fun e => absurd e (eqd_ne h5), hr.2⟩
end Go.Sh.T

namespace Go.Sh.T
open Go Go.Sh Go.Proofs
set_option linter.unusedSimpArgs false
set_option linter.unusedVariables false
theorem ty22 : E.ty 22 = some ti22 := by kernel_rfl
theorem ty56 : E.ty 56 = some ti56 := by kernel_rfl
theorem bind_of {vs : List AV} (h : TypedC E 56 vs) : ∃ s : Bind, vs = s.cells ∧ s.Ok := by
  cases h with
  | bool h hd b => rw [ty56] at h; cases h; cases hd
  | int h hd hw => rw [ty56] at h; cases h; cases hd
  | str h hd hs => rw [ty56] at h; cases h; cases hd
  | sl h hd hj hl hes => rw [ty56] at h; cases h; cases hd
  | struct h hd hf =>
    rw [ty56] at h; cases h; cases hd
    cases hf with
    | cons h1 hf =>
    cases hf with
    | cons h2 hf =>
    cases hf
    obtain ⟨x, rfl, hx⟩ := str_of h1 ty9
    obtain ⟨y, rfl, hy⟩ := ty_of h2
    exact ⟨⟨x, y⟩, by simp [Bind.cells, strC], ⟨hx, hy⟩⟩
theorem binds_ofE : ∀ {es : List (List AV)}, TypedE E 56 es → ∃ l : List Bind, es = l.map Bind.cells ∧ ∀ s ∈ l, s.Ok
  | [], _ => ⟨[], rfl, fun _ h => by cases h⟩
  | _ :: _, .cons h hr => by
    obtain ⟨s, rfl, hs⟩ := bind_of h
    obtain ⟨l, rfl, hl⟩ := binds_ofE hr
    exact ⟨s :: l, rfl, fun x hx => by
      rcases List.mem_cons.1 hx with e | e
      · rw [e]; exact hs
      · exact hl x e⟩
theorem binds_of {vs : List AV} (h : TypedC E 22 vs) : ∃ l : List Bind, vs = [.sl 6 (l.map Bind.cells)] ∧ l.length ≤ maxLen ∧ ∀ s ∈ l, s.Ok := by
  cases h with
  | bool h hd b => rw [ty22] at h; cases h; cases hd
  | int h hd hw => rw [ty22] at h; cases h; cases hd
  | str h hd hs => rw [ty22] at h; cases h; cases hd
  | struct h hd hf => rw [ty22] at h; cases h; cases hd
  | sl h hd hj hl hes =>
    rw [ty22] at h; cases h; cases hd
    rw [ty56] at hj; cases hj
    obtain ⟨l, rfl, hs⟩ := binds_ofE hes
    exact ⟨l, rfl, by simpa using hl, hs⟩
theorem str_of' {vs : List AV} (h : TypedC E 9 vs) : ∃ s, vs = [.lit (.string s)] ∧ s.size ≤ maxLen := str_of h ty9
def flatTs : List Nat := [3, 4, 9, 22, 23, 24, 26, 56]
theorem flatTs_ok : flatAll E flatTs = true := by kernel_rfl

mutual
theorem dsz_le {H : Type} : ∀ d : DataW H, dsz d ≤ Ytnhdkbklgjfhnaa.Rows.uptoBulk d
  | .lit l => by cases l <;> simp [dsz, Ytnhdkbklgjfhnaa.Rows.uptoBulk]
  | .nil => by simp [dsz, Ytnhdkbklgjfhnaa.Rows.uptoBulk]
  | .ptr d => by simp [dsz, Ytnhdkbklgjfhnaa.Rows.uptoBulk]
  | .slice e s => by have := dszL_le e; simp only [dsz, Ytnhdkbklgjfhnaa.Rows.uptoBulk]; omega
  | .agg p => by have := dszL_le p; simp only [dsz, Ytnhdkbklgjfhnaa.Rows.uptoBulk]; omega
  | .iface _ d => by simp [dsz, Ytnhdkbklgjfhnaa.Rows.uptoBulk]
  | .map _ => by simp [dsz, Ytnhdkbklgjfhnaa.Rows.uptoBulk]
  | .held _ => by simp [dsz, Ytnhdkbklgjfhnaa.Rows.uptoBulk]
theorem dszL_le {H : Type} : ∀ l : List (DataW H), dszL l ≤ Ytnhdkbklgjfhnaa.Rows.uptoBulkAll l
  | [] => by simp [dszL, Ytnhdkbklgjfhnaa.Rows.uptoBulkAll]
  | d :: r => by have := dsz_le d; have := dszL_le r; simp only [dszL, Ytnhdkbklgjfhnaa.Rows.uptoBulkAll]; omega
end
end Go.Sh.T
