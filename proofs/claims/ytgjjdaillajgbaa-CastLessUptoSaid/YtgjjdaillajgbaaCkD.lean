/- CkD: part of the proof: a shadow of the machine that is proved sound, and what the functions of this seat compute. Conditions: none. -/
import Derived.Test.YtgjjdaillajgbaaCkB
import Derived.Test.YtgjjdaillajgbaaCkU
import Derived.Test.YtgjjdaillajgbaaCkC
namespace Go.Sh.T
open Go Go.Sh
set_option linter.unusedSimpArgs false
set_option linter.unusedVariables false

structure Val where
  k : Int
  n : Int
  m : Int
  inn : Bool
  s : ByteArray
  df : ByteArray
  nd : Int
  types : List Ty
  labels : List ByteArray
  kids : List Val
structure Core where
  k : Int
  n : Int
  m : Int
  inn : Bool
  name : ByteArray
  df : ByteArray
  nd : Int
  types : List Ty
  labels : List ByteArray
  kids : List Core
  vals : List Val

mutual
def Val.cells : Val → List AV
  | ⟨k, n, m, b, s, d, e, ts, ls, xs⟩ => [.lit (.int .i64 k), .lit (.int .i64 n), .lit (.int .i64 m), .lit (.bool b), .lit (.string s), .lit (.string d), .lit (.int .i64 e), .sl 5 (ts.map Ty.cells), .sl 1 (ls.map strC), .sl 10 (Val.cellsL xs)]
def Val.cellsL : List Val → List (List AV)
  | [] => []
  | t :: r => t.cells :: Val.cellsL r
end
theorem Val.cellsL_map : ∀ l : List Val, Val.cellsL l = l.map Val.cells
  | [] => rfl
  | t :: r => by rw [Val.cellsL, Val.cellsL_map r]; rfl
theorem Val.cells_eq (t : Val) : t.cells = [.lit (.int .i64 t.k), .lit (.int .i64 t.n), .lit (.int .i64 t.m), .lit (.bool t.inn), .lit (.string t.s), .lit (.string t.df), .lit (.int .i64 t.nd), .sl 5 (t.types.map Ty.cells), .sl 1 (t.labels.map strC), .sl 10 (t.kids.map Val.cells)] := by
  cases t; rw [Val.cells, Val.cellsL_map]
mutual
def Core.cells : Core → List AV
  | ⟨k, n, m, b, s, d, e, ts, ls, xs, vs⟩ => [.lit (.int .i64 k), .lit (.int .i64 n), .lit (.int .i64 m), .lit (.bool b), .lit (.string s), .lit (.string d), .lit (.int .i64 e), .sl 5 (ts.map Ty.cells), .sl 1 (ls.map strC), .sl 11 (Core.cellsL xs), .sl 10 (vs.map Val.cells)]
def Core.cellsL : List Core → List (List AV)
  | [] => []
  | t :: r => t.cells :: Core.cellsL r
end
theorem Core.cellsL_map : ∀ l : List Core, Core.cellsL l = l.map Core.cells
  | [] => rfl
  | t :: r => by rw [Core.cellsL, Core.cellsL_map r]; rfl
theorem Core.cells_eq (t : Core) : t.cells = [.lit (.int .i64 t.k), .lit (.int .i64 t.n), .lit (.int .i64 t.m), .lit (.bool t.inn), .lit (.string t.name), .lit (.string t.df), .lit (.int .i64 t.nd), .sl 5 (t.types.map Ty.cells), .sl 1 (t.labels.map strC), .sl 11 (t.kids.map Core.cells), .sl 10 (t.vals.map Val.cells)] := by
  cases t; rw [Core.cells, Core.cellsL_map]

@[simp] theorem Val.cells_len (t : Val) : t.cells.length = 10 := by rw [Val.cells_eq]; rfl
@[simp] theorem Val.c0 (t : Val) : t.cells.getD 0 .dead = .lit (.int .i64 t.k) := by rw [Val.cells_eq]; rfl
@[simp] theorem Val.c1 (t : Val) : t.cells.getD 1 .dead = .lit (.int .i64 t.n) := by rw [Val.cells_eq]; rfl
@[simp] theorem Val.c2 (t : Val) : t.cells.getD 2 .dead = .lit (.int .i64 t.m) := by rw [Val.cells_eq]; rfl
@[simp] theorem Val.c3 (t : Val) : t.cells.getD 3 .dead = .lit (.bool t.inn) := by rw [Val.cells_eq]; rfl
@[simp] theorem Val.c4 (t : Val) : t.cells.getD 4 .dead = .lit (.string t.s) := by rw [Val.cells_eq]; rfl
@[simp] theorem Val.c5 (t : Val) : t.cells.getD 5 .dead = .lit (.string t.df) := by rw [Val.cells_eq]; rfl
@[simp] theorem Val.c6 (t : Val) : t.cells.getD 6 .dead = .lit (.int .i64 t.nd) := by rw [Val.cells_eq]; rfl
@[simp] theorem Val.c7 (t : Val) : t.cells.getD 7 .dead = .sl 5 (t.types.map Ty.cells) := by rw [Val.cells_eq]; rfl
@[simp] theorem Val.c8 (t : Val) : t.cells.getD 8 .dead = .sl 1 (t.labels.map strC) := by rw [Val.cells_eq]; rfl
@[simp] theorem Val.c9 (t : Val) : t.cells.getD 9 .dead = .sl 10 (t.kids.map Val.cells) := by rw [Val.cells_eq]; rfl
theorem Val.re (t : Val) : [t.cells.getD 0 .dead, t.cells.getD 1 .dead, t.cells.getD 2 .dead, t.cells.getD 3 .dead, t.cells.getD 4 .dead, t.cells.getD 5 .dead, t.cells.getD 6 .dead, t.cells.getD 7 .dead, t.cells.getD 8 .dead, t.cells.getD 9 .dead] = t.cells := by
  rw [Val.cells_eq]; rfl
@[simp] theorem Core.cells_len (t : Core) : t.cells.length = 11 := by rw [Core.cells_eq]; rfl
@[simp] theorem Core.c0 (t : Core) : t.cells.getD 0 .dead = .lit (.int .i64 t.k) := by rw [Core.cells_eq]; rfl
@[simp] theorem Core.c1 (t : Core) : t.cells.getD 1 .dead = .lit (.int .i64 t.n) := by rw [Core.cells_eq]; rfl
@[simp] theorem Core.c2 (t : Core) : t.cells.getD 2 .dead = .lit (.int .i64 t.m) := by rw [Core.cells_eq]; rfl
@[simp] theorem Core.c3 (t : Core) : t.cells.getD 3 .dead = .lit (.bool t.inn) := by rw [Core.cells_eq]; rfl
@[simp] theorem Core.c4 (t : Core) : t.cells.getD 4 .dead = .lit (.string t.name) := by rw [Core.cells_eq]; rfl
@[simp] theorem Core.c5 (t : Core) : t.cells.getD 5 .dead = .lit (.string t.df) := by rw [Core.cells_eq]; rfl
@[simp] theorem Core.c6 (t : Core) : t.cells.getD 6 .dead = .lit (.int .i64 t.nd) := by rw [Core.cells_eq]; rfl
@[simp] theorem Core.c7 (t : Core) : t.cells.getD 7 .dead = .sl 5 (t.types.map Ty.cells) := by rw [Core.cells_eq]; rfl
@[simp] theorem Core.c8 (t : Core) : t.cells.getD 8 .dead = .sl 1 (t.labels.map strC) := by rw [Core.cells_eq]; rfl
@[simp] theorem Core.c9 (t : Core) : t.cells.getD 9 .dead = .sl 11 (t.kids.map Core.cells) := by rw [Core.cells_eq]; rfl
@[simp] theorem Core.c10 (t : Core) : t.cells.getD 10 .dead = .sl 10 (t.vals.map Val.cells) := by rw [Core.cells_eq]; rfl
theorem Core.re (t : Core) : [t.cells.getD 0 .dead, t.cells.getD 1 .dead, t.cells.getD 2 .dead, t.cells.getD 3 .dead, t.cells.getD 4 .dead, t.cells.getD 5 .dead, t.cells.getD 6 .dead, t.cells.getD 7 .dead, t.cells.getD 8 .dead, t.cells.getD 9 .dead, t.cells.getD 10 .dead] = t.cells := by
  rw [Core.cells_eq]; rfl

inductive Val.Ok : Val → Prop
  | mk {t : Val} (hs : t.s.size ≤ maxLen) (hd : t.df.size ≤ maxLen) (htl : t.types.length ≤ maxLen) (hts : ∀ a ∈ t.types, a.Ok) (hl : t.labels.length ≤ maxLen) (hls : ∀ s ∈ t.labels, s.size ≤ maxLen) (ha : t.kids.length ≤ maxLen) (has : ∀ a ∈ t.kids, a.Ok) : t.Ok
inductive Core.Ok : Core → Prop
  | mk {t : Core} (hk : (Lit.int .i64 t.k).wf = true) (hn : (Lit.int .i64 t.n).wf = true) (hm : (Lit.int .i64 t.m).wf = true) (he : (Lit.int .i64 t.nd).wf = true) (hs : t.name.size ≤ maxLen) (hd : t.df.size ≤ maxLen) (htl : t.types.length ≤ maxLen) (hts : ∀ a ∈ t.types, a.Ok) (hl : t.labels.length ≤ maxLen) (hls : ∀ s ∈ t.labels, s.size ≤ maxLen) (ha : t.kids.length ≤ maxLen) (has : ∀ a ∈ t.kids, a.Ok) (hv : t.vals.length ≤ maxLen) (hvs : ∀ a ∈ t.vals, a.Ok) : t.Ok
theorem Val.Ok.len {t : Val} (h : t.Ok) : t.kids.length ≤ maxLen := by cases h with | mk _ _ _ _ _ _ ha _ => exact ha
theorem Val.Ok.kid {t : Val} (h : t.Ok) {a : Val} (ha : a ∈ t.kids) : a.Ok := by cases h with | mk _ _ _ _ _ _ _ has => exact has a ha
theorem Val.Ok.tlen {t : Val} (h : t.Ok) : t.types.length ≤ maxLen := by cases h with | mk _ _ ha _ _ _ _ _ => exact ha
theorem Val.Ok.ty {t : Val} (h : t.Ok) {a : Ty} (ha : a ∈ t.types) : a.Ok := by cases h with | mk _ _ _ has _ _ _ _ => exact has a ha
theorem Val.Ok.lab {t : Val} (h : t.Ok) : t.labels.length ≤ maxLen := by cases h with | mk _ _ _ _ ha _ _ _ => exact ha
theorem Val.Ok.str {t : Val} (h : t.Ok) : t.s.size ≤ maxLen := by cases h with | mk hs _ _ _ _ _ _ _ => exact hs
theorem Val.Ok.def {t : Val} (h : t.Ok) : t.df.size ≤ maxLen := by cases h with | mk _ hs _ _ _ _ _ _ => exact hs
theorem Core.Ok.len {t : Core} (h : t.Ok) : t.kids.length ≤ maxLen := by cases h with | mk _ _ _ _ _ _ _ _ _ _ ha _ _ _ => exact ha
theorem Core.Ok.kid {t : Core} (h : t.Ok) {a : Core} (ha : a ∈ t.kids) : a.Ok := by cases h with | mk _ _ _ _ _ _ _ _ _ _ _ has _ _ => exact has a ha
theorem Core.Ok.tlen {t : Core} (h : t.Ok) : t.types.length ≤ maxLen := by cases h with | mk _ _ _ _ _ _ ha _ _ _ _ _ _ _ => exact ha
theorem Core.Ok.ty {t : Core} (h : t.Ok) {a : Ty} (ha : a ∈ t.types) : a.Ok := by cases h with | mk _ _ _ _ _ _ _ has _ _ _ _ _ _ => exact has a ha
theorem Core.Ok.lab {t : Core} (h : t.Ok) : t.labels.length ≤ maxLen := by cases h with | mk _ _ _ _ _ _ _ _ ha _ _ _ _ _ => exact ha
theorem Core.Ok.str {t : Core} (h : t.Ok) : t.name.size ≤ maxLen := by cases h with | mk _ _ _ _ hs _ _ _ _ _ _ _ _ _ => exact hs
theorem Core.Ok.def {t : Core} (h : t.Ok) : t.df.size ≤ maxLen := by cases h with | mk _ _ _ _ _ hs _ _ _ _ _ _ _ _ => exact hs
theorem Core.Ok.val {t : Core} (h : t.Ok) {a : Val} (ha : a ∈ t.vals) : a.Ok := by cases h with | mk _ _ _ _ _ _ _ _ _ _ _ _ _ has => exact has a ha

theorem Val.size_kid {t : Val} {i : Nat} (hi : i < t.kids.length) : SizeOf.sizeOf t.kids[i] < SizeOf.sizeOf t := by
  have := List.sizeOf_lt_of_mem (List.getElem_mem hi)
  cases t; simp only [Val.mk.sizeOf_spec] at *; omega
theorem Core.size_kid {t : Core} {i : Nat} (hi : i < t.kids.length) : SizeOf.sizeOf t.kids[i] < SizeOf.sizeOf t := by
  have := List.sizeOf_lt_of_mem (List.getElem_mem hi)
  cases t; simp only [Core.mk.sizeOf_spec] at *; omega

/- strings: the same bytes, the same string -/
theorem toList_loop (s : ByteArray) : ∀ (m i : Nat) (r : List UInt8), s.size ≤ m + i → ByteArray.toList.loop s i r = r.reverse ++ s.data.toList.drop i
  | 0, i, r, h => by
    unfold ByteArray.toList.loop
    rw [if_neg (by omega), List.drop_of_length_le (show s.size ≤ i by omega), List.append_nil]
  | m + 1, i, r, h => by
    unfold ByteArray.toList.loop
    split
    · rename_i hi
      have hi' : i < s.data.toList.length := hi
      have e : s.get! i = s.data.toList[i]'hi' := by
        show s.data[i]! = _
        rw [getElem!_pos s.data i hi]; rfl
      rw [toList_loop s m (i + 1) _ (by omega), List.drop_eq_getElem_cons hi', e, List.reverse_cons, List.append_assoc]; rfl
    · rename_i hi
      rw [List.drop_of_length_le (show s.size ≤ i by omega), List.append_nil]
theorem toList_data (s : ByteArray) : s.toList = s.data.toList := by
  unfold ByteArray.toList
  rw [toList_loop s s.size 0 [] (by omega)]; rfl
theorem strEq_iff {a b : ByteArray} : strEq a b = true ↔ a = b := by
  unfold strEq
  rw [beq_iff_eq, toList_data, toList_data]
  constructor
  · intro h
    cases a; cases b
    rename_i x y
    cases x; cases y
    have h : (_ : List UInt8) = _ := h
    exact congrArg (fun l => ByteArray.mk (Array.mk l)) h
  · rintro rfl; rfl

/- the same types -/
theorem sameS_iff : ∀ (l m : List ByteArray), (decide (l.length = m.length) && sameS l m) = true ↔ l = m
  | [], [] => by simp [sameS]
  | [], y :: m => by simp
  | x :: l, [] => by simp
  | x :: l, y :: m => by
    have := sameS_iff l m
    rw [Bool.and_eq_true, decide_eq_true_iff] at this
    rw [Bool.and_eq_true, decide_eq_true_iff, sameS, Bool.and_eq_true, strEq_iff, List.cons.injEq, ← this]
    simp only [List.length_cons, Nat.add_right_cancel_iff]
    exact ⟨fun ⟨a, b, c⟩ => ⟨b, a, c⟩, fun ⟨b, a, c⟩ => ⟨a, b, c⟩⟩
mutual
theorem Ty.same_iff : ∀ t u : Ty, t.same u = true ↔ t = u
  | ⟨k, n, s, ls, xs⟩, ⟨k', n', s', ls', xs'⟩ => by
    have h1 := Ty.sameL_iff xs xs'
    have h2 := sameS_iff ls ls'
    rw [Ty.same]
    simp only [Bool.and_eq_true, decide_eq_true_iff, strEq_iff, Ty.mk.injEq, Bool.not_eq_true', bne_eq_false_iff_eq] at *
    rw [← h1, ← h2]
    constructor
    · rintro ⟨⟨⟨⟨⟨a, b⟩, c⟩, d⟩, e⟩, f⟩; exact ⟨a, b, c, d, e, f⟩
    · rintro ⟨a, b, c, d, e, f⟩; exact ⟨⟨⟨⟨⟨a, b⟩, c⟩, d⟩, e⟩, f⟩
theorem Ty.sameL_iff : ∀ l m : List Ty, (decide (l.length = m.length) && Ty.sameL l m) = true ↔ l = m
  | [], [] => by simp [Ty.sameL]
  | [], y :: m => by simp
  | x :: l, [] => by simp
  | x :: l, y :: m => by
    have h1 := Ty.same_iff x y
    have h2 := Ty.sameL_iff l m
    rw [Bool.and_eq_true, decide_eq_true_iff] at h2
    rw [Bool.and_eq_true, decide_eq_true_iff, Ty.sameL, Bool.and_eq_true, h1, List.cons.injEq, ← h2]
    simp only [List.length_cons, Nat.add_right_cancel_iff]
    exact ⟨fun ⟨a, b, c⟩ => ⟨b, a, c⟩, fun ⟨b, a, c⟩ => ⟨a, b, c⟩⟩
end

/-- Are they the same: the law's question. -/
noncomputable def eqd {α : Type} (a b : α) : Bool := @decide (a = b) (Classical.propDecidable _)
theorem eqd_iff {α : Type} {a b : α} : eqd a b = true ↔ a = b := by unfold eqd; exact @decide_eq_true_iff _ (Classical.propDecidable _)
theorem eqd_self {α : Type} (a : α) : eqd a a = true := eqd_iff.2 rfl
theorem eqd_f {α : Type} {a b : α} (h : a ≠ b) : eqd a b = false := by
  cases e : eqd a b with
  | false => rfl
  | true => exact absurd (eqd_iff.1 e) h
theorem Ty.same_eqd (t u : Ty) : t.same u = eqd t u := by rw [Bool.eq_iff_iff, Ty.same_iff, eqd_iff]
theorem strEq_eqd (a b : ByteArray) : strEq a b = eqd a b := by rw [Bool.eq_iff_iff, strEq_iff, eqd_iff]
theorem int_eqd (a b : Int) : (a == b) = eqd a b := by rw [Bool.eq_iff_iff, beq_iff_eq, eqd_iff]
theorem bool_eqd (a b : Bool) : (a == b) = eqd a b := by rw [Bool.eq_iff_iff, beq_iff_eq, eqd_iff]
theorem sameS_eqd (l m : List ByteArray) : (decide (l.length = m.length) && sameS l m) = eqd l m := by rw [Bool.eq_iff_iff, sameS_iff, eqd_iff]
theorem eqd_cons {α : Type} (a b : α) (l m : List α) : eqd (a :: l) (b :: m) = (eqd a b && eqd l m) := by
  rw [Bool.eq_iff_iff, Bool.and_eq_true, eqd_iff, eqd_iff, eqd_iff, List.cons.injEq]
theorem eqd_len {α : Type} {l m : List α} (h : l.length ≠ m.length) : eqd l m = false := eqd_f fun e => h (by rw [e])
theorem Val.eqd_eq (a b : Val) : eqd a b = (eqd a.k b.k && (eqd a.n b.n && (eqd a.m b.m && (eqd a.inn b.inn && (eqd a.s b.s && ((eqd a.df b.df && eqd a.nd b.nd) && (eqd a.types b.types && (eqd a.labels b.labels && eqd a.kids b.kids)))))))) := by
  rw [Bool.eq_iff_iff]
  simp only [Bool.and_eq_true, eqd_iff]
  cases a; cases b
  simp only [Val.mk.injEq]
  constructor
  · rintro ⟨a, b, c, d, e, f, g, h, i, j⟩; exact ⟨a, b, c, d, e, ⟨f, g⟩, h, i, j⟩
  · rintro ⟨a, b, c, d, e, ⟨f, g⟩, h, i, j⟩; exact ⟨a, b, c, d, e, f, g, h, i, j⟩
theorem Core.eqd_eq (a b : Core) : eqd a b = (eqd a.k b.k && (eqd a.n b.n && (eqd a.m b.m && (eqd a.inn b.inn && (eqd a.name b.name && ((eqd a.df b.df && eqd a.nd b.nd) && (eqd a.types b.types && (eqd a.labels b.labels && (eqd a.vals b.vals && eqd a.kids b.kids))))))))) := by
  rw [Bool.eq_iff_iff]
  simp only [Bool.and_eq_true, eqd_iff]
  cases a; cases b
  simp only [Core.mk.injEq]
  constructor
  · rintro ⟨a, b, c, d, e, f, g, h, i, j, k⟩; exact ⟨a, b, c, d, e, ⟨f, g⟩, h, i, k, j⟩
  · rintro ⟨a, b, c, d, e, ⟨f, g⟩, h, i, j, k⟩; exact ⟨a, b, c, d, e, f, g, h, i, k, j⟩
end Go.Sh.T

namespace Go.Sh.T
open Go Go.Sh
set_option linter.unusedSimpArgs false
set_option linter.unusedVariables false
set_option maxRecDepth 100000
theorem lenA55 (es : List (List AV)) : lenA E 55 (.sl 10 es) = some (es.length : Int) := (Eq.refl _).trans (by kernel_rfl)
theorem apply_fn (F : Nat → List AV → Heap → R) (f : Nat) (args : List AV) (h : Heap) : applyV F (.fn f [] []) args h = F f args h := by
  have : applyV F (.fn f [] []) args h = F f (([] ++ args) ++ []) h := rfl
  rw [this, List.append_nil, List.nil_append]
theorem Ty.re (t : Ty) : [t.cells.getD 0 .dead, t.cells.getD 1 .dead, t.cells.getD 2 .dead, t.cells.getD 3 .dead, t.cells.getD 4 .dead] = t.cells := Ty.refold t
theorem label_ne (a b : ByteArray) (n m : Int) : binAV E .neq 25 (.agg [.lit (.string a), .lit (.int .i64 n)]) (.agg [.lit (.string b), .lit (.int .i64 m)]) = some (.lit (.bool (!(eqd a b && eqd n m)))) := by
  have h : binAV E .neq 25 (.agg [.lit (.string a), .lit (.int .i64 n)]) (.agg [.lit (.string b), .lit (.int .i64 m)]) = some (.lit (.bool (!((a == b) && ((n == m) && true))))) := (Eq.refl _).trans (by kernel_rfl)
  rw [h, Bool.and_true]
  have : (a == b) = eqd a b := by
    rw [Bool.eq_iff_iff, eqd_iff]
    cases a with
    | mk x =>
      cases b with
      | mk y =>
        show (x == y) = true ↔ _
        rw [beq_iff_eq]
        exact ⟨fun e => by rw [e], fun e => by cases e; rfl⟩
  rw [this, int_eqd]
theorem guardN {b c : Bool} {r : R} {h : Heap} (e : r = some (.ret (.lit (.bool c)), h)) : cond (!b) (some (.ret (.lit (.bool false)), h)) r = some (.ret (.lit (.bool (b && c))), h) := by
  cases b with
  | false => rfl
  | true => exact e
theorem guardP {b c : Bool} {r : R} {h : Heap} (e : r = some (.ret (.lit (.bool c)), h)) : cond b r (some (.ret (.lit (.bool false)), h)) = some (.ret (.lit (.bool (b && c))), h) := by
  cases b with
  | false => rfl
  | true => exact e
theorem int_ne (a b : Int) : (a != b) = !(eqd a b) := by rw [← int_eqd]; rfl
theorem neS (a b : ByteArray) : strBin .neq a b = some (.lit (.bool (!(eqd a b)))) := by
  have : strBin .neq a b = some (.lit (.bool (!(strEq a b)))) := (Eq.refl _).trans rfl
  rw [this, strEq_eqd]
theorem eqSt (a b : ByteArray) : strBin .eql a b = some (.lit (.bool (eqd a b))) := by
  have : strBin .eql a b = some (.lit (.bool (strEq a b))) := (Eq.refl _).trans rfl
  rw [this, strEq_eqd]
theorem neB (a b : Bool) : binAV E .neq 4 (.lit (.bool a)) (.lit (.bool b)) = some (.lit (.bool (!(eqd a b)))) := by
  have : binAV E .neq 4 (.lit (.bool a)) (.lit (.bool b)) = some (.lit (.bool (!(a == b)))) := (Eq.refl _).trans (by kernel_rfl)
  rw [this, bool_eqd]
theorem same23 (t u : Ty) (h : Heap) (ok : t.Ok) : evw E 23 [.agg t.cells, .agg u.cells] h = some (.ret (.lit (.bool (eqd t u))), h) := by
  rw [same_spec t u h ok, Ty.same_eqd]
theorem same79e (l m : List ByteArray) (hl : l.length ≤ maxLen) (h : Heap) : evw E 79 [.sl 1 (l.map strC), .sl 1 (m.map strC)] h = some (.ret (.lit (.bool (eqd l m))), h) := by
  rw [same79 l m hl h, sameS_eqd]

theorem same96 (l m : List Ty) (hl : l.length ≤ maxLen) (h : Heap) (rec : ∀ i (h1 : i < l.length) (h2 : i < m.length), evw E 23 [.agg (l[i]).cells, .agg (m[i]).cells] h = some (.ret (.lit (.bool (eqd l[i] m[i]))), h)) : evw E 96 [.sl 5 (l.map Ty.cells), .sl 5 (m.map Ty.cells)] h = some (.ret (.lit (.bool (eqd l m))), h) := by
  have hl : l.length ≤ 9223372036854775807 := hl
  have loop : ∀ (q i : Nat), l.length = m.length → i ≤ l.length → l.length < q + i → Lp96_0 (evw E) (l.length + 1) h q h (.sl 5 (l.map Ty.cells)) (.sl 5 (m.map Ty.cells)) (.lit (.int .i64 (i : Int))) = some (.ret (.lit (.bool (eqd (l.drop i) (m.drop i)))), h) := by
    intro q
    induction q with
    | zero => intro i _ h1 h2; omega
    | succ q ih =>
      intro i he h1 h2
      rw [Lp96_0_succ]
      simp only [lenA29, bind_some', bin_int, lssI, boolB, List.length_map]
      by_cases hi : i < l.length
      · have hj : i < m.length := by omega
        rw [ltT hi, condT, ltT hj, condT, indexA_map _ _ _ _ hi, bind_some', partA_full (Ty.cells_len _), bind_some', indexA_map _ _ _ _ hj, bind_some', partA_full (Ty.cells_len _), bind_some', rec i hi hj, onOut_ret, notB, bind_some', boolB, bind_some', List.drop_eq_getElem_cons hi, List.drop_eq_getElem_cons hj, eqd_cons, addI, bind_some', incI (by omega)]
        cases e : eqd l[i] m[i] with
        | false => rfl
        | true => exact ih (i + 1) he hi (by omega)
      · rw [ltF hi, condF, List.drop_of_length_le (by omega), List.drop_of_length_le (by omega), eqd_self]
  refine evw_run primsC (l.length + 1) rfl rfl rfl ?_
  rw [nf96]
  simp only [lenA29, bind_some', bin_int, neqI, boolB, List.length_map]
  by_cases he : l.length = m.length
  · have := loop (l.length + 1) 0 he (Nat.zero_le _) (by omega)
    rw [show ((l.length : Int) != (m.length : Int)) = false from by rw [he]; simp, condF]
    rw [show ((0 : Nat) : Int) = 0 from rfl, List.drop_zero, List.drop_zero] at this
    exact this
  · rw [show ((l.length : Int) != (m.length : Int)) = true from by rw [bne_iff_ne]; omega, condT, eqd_len he]


theorem same97 (l m : List Val) (hl : l.length ≤ maxLen) (h : Heap) (rec : ∀ i (h1 : i < l.length) (h2 : i < m.length), evw E 51 [.agg (l[i]).cells, .agg (m[i]).cells] h = some (.ret (.lit (.bool (eqd l[i] m[i]))), h)) : evw E 97 [.sl 10 (l.map Val.cells), .sl 10 (m.map Val.cells)] h = some (.ret (.lit (.bool (eqd l m))), h) := by
  have hl : l.length ≤ 9223372036854775807 := hl
  have loop : ∀ (q i : Nat), l.length = m.length → i ≤ l.length → l.length < q + i → Lp97_0 (evw E) (l.length + 1) h q h (.sl 10 (l.map Val.cells)) (.sl 10 (m.map Val.cells)) (.lit (.int .i64 (i : Int))) = some (.ret (.lit (.bool (eqd (l.drop i) (m.drop i)))), h) := by
    intro q
    induction q with
    | zero => intro i _ h1 h2; omega
    | succ q ih =>
      intro i he h1 h2
      rw [Lp97_0_succ]
      simp only [lenA55, bind_some', bin_int, lssI, boolB, List.length_map]
      by_cases hi : i < l.length
      · have hj : i < m.length := by omega
        rw [ltT hi, condT, ltT hj, condT, indexA_map _ _ _ _ hi, bind_some', partA_full (Val.cells_len _), bind_some', indexA_map _ _ _ _ hj, bind_some', partA_full (Val.cells_len _), bind_some', rec i hi hj, onOut_ret, notB, bind_some', boolB, bind_some', List.drop_eq_getElem_cons hi, List.drop_eq_getElem_cons hj, eqd_cons, addI, bind_some', incI (by omega)]
        cases e : eqd l[i] m[i] with
        | false => rfl
        | true => exact ih (i + 1) he hi (by omega)
      · rw [ltF hi, condF, List.drop_of_length_le (by omega), List.drop_of_length_le (by omega), eqd_self]
  refine evw_run primsC (l.length + 1) rfl rfl rfl ?_
  rw [nf97]
  simp only [lenA55, bind_some', bin_int, neqI, boolB, List.length_map]
  by_cases he : l.length = m.length
  · have := loop (l.length + 1) 0 he (Nat.zero_le _) (by omega)
    rw [show ((l.length : Int) != (m.length : Int)) = false from by rw [he]; simp, condF]
    rw [show ((0 : Nat) : Int) = 0 from rfl, List.drop_zero, List.drop_zero] at this
    exact this
  · rw [show ((l.length : Int) != (m.length : Int)) = true from by rw [bne_iff_ne]; omega, condT, eqd_len he]


theorem same100 (l m : List Ty) (hl : l.length ≤ maxLen) (h : Heap) (rec : ∀ i (h1 : i < l.length) (h2 : i < m.length), evw E 101 [.agg (l[i]).cells, .agg (m[i]).cells] h = some (.ret (.lit (.bool (eqd l[i] m[i]))), h)) : evw E 100 [.sl 5 (l.map Ty.cells), .sl 5 (m.map Ty.cells), .fn 101 [] []] h = some (.ret (.lit (.bool (eqd l m))), h) := by
  have hl : l.length ≤ 9223372036854775807 := hl
  have loop : ∀ (q i : Nat), l.length = m.length → i ≤ l.length → l.length < q + i → Lp100_0 (evw E) (l.length + 1) h q h (.sl 5 (m.map Ty.cells)) (.fn 101 [] []) (.sl 5 (l.map Ty.cells)) (.lit (.int .i64 (l.length : Int))) (.lit (.int .i64 (i : Int))) = some (.ret (.lit (.bool (eqd (l.drop i) (m.drop i)))), h) := by
    intro q
    induction q with
    | zero => intro i _ h1 h2; omega
    | succ q ih =>
      intro i he h1 h2
      rw [Lp100_0_succ, bin_int, lssI, bind_some', boolB, bind_some']
      by_cases hi : i < l.length
      · have hj : i < m.length := by omega
        rw [ltT hi, condT, indexA_map _ _ _ _ hi, bind_some', partA_full (Ty.cells_len _), bind_some', aggS, bind_some', Ty.cells_len, show Nat.beq 5 5 = true from rfl, condT, indexA_map _ _ _ _ hj, bind_some', partA_full (Ty.cells_len _), bind_some', aggS, bind_some', Ty.cells_len, show Nat.beq 5 5 = true from rfl, condT, Ty.re, Ty.re, apply_fn, rec i hi hj, onOut_ret, notB, bind_some', boolB, bind_some', List.drop_eq_getElem_cons hi, List.drop_eq_getElem_cons hj, eqd_cons, bin_int, addI, bind_some', incI (by omega)]
        cases e : eqd l[i] m[i] with
        | false => rfl
        | true => exact ih (i + 1) he hi (by omega)
      · rw [ltF hi, condF, List.drop_of_length_le (by omega), List.drop_of_length_le (by omega), eqd_self]
  refine evw_run primsC (l.length + 1) rfl rfl rfl ?_
  rw [nf100]
  simp only [lenA29, bind_some', bin_int, neqI, boolB, List.length_map]
  by_cases he : l.length = m.length
  · have := loop (l.length + 1) 0 he (Nat.zero_le _) (by omega)
    rw [show ((l.length : Int) != (m.length : Int)) = false from by rw [he]; simp, condF]
    rw [show ((0 : Nat) : Int) = 0 from rfl, List.drop_zero, List.drop_zero] at this
    exact this
  · rw [show ((l.length : Int) != (m.length : Int)) = true from by rw [bne_iff_ne]; omega, condT, eqd_len he]


theorem same102 (l m : List ByteArray) (hl : l.length ≤ maxLen) (h : Heap) : evw E 102 [.sl 1 (l.map strC), .sl 1 (m.map strC)] h = some (.ret (.lit (.bool (eqd l m))), h) := by
  have hl : l.length ≤ 9223372036854775807 := hl
  have loop : ∀ (q i : Nat), l.length = m.length → i ≤ l.length → l.length < q + i → Lp102_0 (evw E) (l.length + 1) h q h (.sl 1 (l.map strC)) (.sl 1 (m.map strC)) (.lit (.int .i64 (l.length : Int))) (.lit (.int .i64 (i : Int))) = some (.ret (.lit (.bool (eqd (l.drop i) (m.drop i)))), h) := by
    intro q
    induction q with
    | zero => intro i _ h1 h2; omega
    | succ q ih =>
      intro i he h1 h2
      rw [Lp102_0_succ, bin_int, lssI, bind_some', boolB, bind_some']
      by_cases hi : i < l.length
      · have hj : i < m.length := by omega
        rw [ltT hi, condT, indexA_map _ _ _ _ hi, bind_some', part_str, bind_some', indexA_map _ _ _ _ hj, bind_some', part_str, bind_some', bin_str, neS, bind_some', boolB, bind_some', List.drop_eq_getElem_cons hi, List.drop_eq_getElem_cons hj, eqd_cons, bin_int, addI, bind_some', incI (by omega)]
        cases e : eqd l[i] m[i] with
        | false => rfl
        | true => exact ih (i + 1) he hi (by omega)
      · rw [ltF hi, condF, List.drop_of_length_le (by omega), List.drop_of_length_le (by omega), eqd_self]
  refine evw_run primsC (l.length + 1) rfl rfl rfl ?_
  rw [nf102]
  simp only [lenA31, bind_some', bin_int, neqI, boolB, List.length_map]
  by_cases he : l.length = m.length
  · have := loop (l.length + 1) 0 he (Nat.zero_le _) (by omega)
    rw [show ((l.length : Int) != (m.length : Int)) = false from by rw [he]; simp, condF]
    rw [show ((0 : Nat) : Int) = 0 from rfl, List.drop_zero, List.drop_zero] at this
    exact this
  · rw [show ((l.length : Int) != (m.length : Int)) = true from by rw [bne_iff_ne]; omega, condT, eqd_len he]

/- ty.Same -/
theorem Ty.eqd_eq (a b : Ty) : eqd a b = (eqd a.k b.k && (eqd a.n b.n && (eqd a.name b.name && (eqd a.labels b.labels && eqd a.args b.args)))) := by
  rw [Bool.eq_iff_iff]
  simp only [Bool.and_eq_true, eqd_iff]
  cases a; cases b
  simp only [Ty.mk.injEq]
theorem same101 : ∀ (t u : Ty) (h : Heap), t.Ok → evw E 101 [.agg t.cells, .agg u.cells] h = some (.ret (.lit (.bool (eqd t u))), h)
  | t, u, h, ok => by
    have hrec := same100 t.args u.args ok.len h fun i h1 h2 => same101 t.args[i] u.args[i] h (ok.arg (List.getElem_mem h1))
    refine evw_run primsC 0 rfl rfl rfl ?_
    rw [nf101]
    simp only [aggS, bind_some', Ty.cells_len, show Nat.beq 5 5 = true from rfl, condT, Ty.c0, Ty.c1, Ty.c2, Ty.c3, Ty.c4, bin_int, eqlI, int_eqd, bin_str, eqSt, boolB, same102 _ _ ok.lab, hrec, onOut_ret]
    rw [Ty.eqd_eq]
    cases eqd t.k u.k <;> cases eqd t.n u.n <;> cases eqd t.name u.name <;> cases eqd t.labels u.labels <;> rfl
  termination_by t => SizeOf.sizeOf t
  decreasing_by exact Ty.size_arg h1

/- values -/
theorem same51 : ∀ (t u : Val) (h : Heap), t.Ok → evw E 51 [.agg t.cells, .agg u.cells] h = some (.ret (.lit (.bool (eqd t u))), h)
  | t, u, h, ok => by
    have hrec := same97 t.kids u.kids ok.len h fun i h1 h2 => same51 t.kids[i] u.kids[i] h (ok.kid (List.getElem_mem h1))
    have hty := same96 t.types u.types ok.tlen h fun i h1 h2 => same23 t.types[i] u.types[i] h (ok.ty (List.getElem_mem h1))
    refine evw_run primsC 0 rfl rfl rfl ?_
    rw [nf51]
    simp only [aggS, bind_some', Val.cells_len, show Nat.beq 10 10 = true from rfl, condT, Val.c0, Val.c1, Val.c2, Val.c3, Val.c4, Val.c5, Val.c6, Val.c7, Val.c8, Val.c9, bin_int, neqI, int_ne, bin_str, neS, neB, label_ne, boolB, notB, same79e _ _ ok.lab, hrec, hty, onOut_ret]
    rw [Val.eqd_eq]
    repeat (first | refine guardN ?_ | refine guardP ?_)
    all_goals rfl
  termination_by t => SizeOf.sizeOf t
  decreasing_by exact Val.size_kid h1

/- terms -/
end Go.Sh.T

namespace Go.Sh.T
open Go Go.Sh
set_option linter.unusedSimpArgs false
set_option linter.unusedVariables false
set_option maxRecDepth 100000

def muchTs (n : Int) : List Ty → Int
  | [] => n
  | t :: r => bif decide (n < 3000) then muchTs (add64 n t.much) r else n
mutual
def Val.much : Val → Int
  | ⟨_, _, _, _, s, d, _, ts, ls, xs⟩ => Val.muchL (muchTs (add64 (add64 (add64 1 (quo8 s)) ls.length) (quo8 d)) ts) xs
def Val.muchL (n : Int) : List Val → Int
  | [] => n
  | t :: r => bif decide (n < 3000) then Val.muchL (add64 n t.much) r else n
end
theorem Val.much_eq (t : Val) : t.much = Val.muchL (muchTs (add64 (add64 (add64 1 (quo8 t.s)) t.labels.length) (quo8 t.df)) t.types) t.kids := by cases t; rw [Val.much]
mutual
def Core.much : Core → Int
  | ⟨_, _, _, _, s, d, _, ts, ls, xs, vs⟩ => Core.muchL (Val.muchL (muchTs (add64 (add64 (add64 1 (quo8 s)) ls.length) (quo8 d)) ts) vs) xs
def Core.muchL (n : Int) : List Core → Int
  | [] => n
  | t :: r => bif decide (n < 3000) then Core.muchL (add64 n t.much) r else n
end
theorem much48 : ∀ (t : Val) (h : Heap), t.Ok → evw E 48 [.agg t.cells] h = some (.ret (.lit (.int .i64 t.much)), h)
  | t, h, ok => by
    have hlen : t.kids.length ≤ 9223372036854775807 := ok.len
    have htl : t.types.length ≤ 9223372036854775807 := ok.tlen
    have loop1 : ∀ (x0 x1 x2 x3 x4 x5 x6 x7 x8 : AV) (m i : Nat) (acc : Int), i ≤ t.kids.length → t.kids.length < m + i → Lp48_1 (evw E) (t.kids.length + t.types.length + 1) h m h x0 x1 x2 x3 x4 x5 x6 x7 x8 (.sl 10 (t.kids.map Val.cells)) (.lit (.int .i64 acc)) (.lit (.int .i64 (i : Int))) = some (.ret (.lit (.int .i64 (Val.muchL acc (t.kids.drop i)))), h) := by
      intro x0 x1 x2 x3 x4 x5 x6 x7 x8 m
      induction m with
      | zero => intro i acc h1 h2; omega
      | succ m ih =>
        intro i acc h1 h2
        rw [Lp48_1_succ]
        simp only [lenA55, bind_some', bin_int, lssI, boolB, List.length_map]
        by_cases hi : i < t.kids.length
        · have hrec := much48 (t.kids[i]) h (ok.kid (List.getElem_mem hi))
          rw [ltT hi, condT, List.drop_eq_getElem_cons hi, Val.muchL]
          cases decide (acc < 3000) with
          | false => rfl
          | true =>
            rw [condT, condT]
            simp only [indexA_map _ _ _ _ hi, bind_some', partA_full (Val.cells_len _), hrec, onOut_ret, bin_int, addI]
            rw [incI (by omega)]
            exact ih (i + 1) _ hi (by omega)
        · rw [ltF hi, condF, List.drop_of_length_le (by omega), Val.muchL]
    have loop0 : ∀ (x0 x1 x2 x3 x4 x5 x6 x8 : AV) (m i : Nat) (acc : Int), i ≤ t.types.length → t.types.length < m + i → Lp48_0 (evw E) (t.kids.length + t.types.length + 1) h m h x0 x1 x2 x3 x4 x5 x6 (.sl 5 (t.types.map Ty.cells)) x8 (.sl 10 (t.kids.map Val.cells)) (.lit (.int .i64 acc)) (.lit (.int .i64 (i : Int))) = some (.ret (.lit (.int .i64 (Val.muchL (muchTs acc (t.types.drop i)) t.kids))), h) := by
      intro x0 x1 x2 x3 x4 x5 x6 x8 m
      have fin := fun acc => loop1 x0 x1 x2 x3 x4 x5 x6 (.sl 5 (t.types.map Ty.cells)) x8 (t.kids.length + t.types.length + 1) 0 acc (Nat.zero_le _) (by omega)
      induction m with
      | zero => intro i acc h1 h2; omega
      | succ m ih =>
        intro i acc h1 h2
        rw [Lp48_0_succ]
        simp only [lenA29, bind_some', bin_int, lssI, boolB, List.length_map]
        have fin' := fin acc
        rw [List.drop_zero, show ((0 : Nat) : Int) = 0 from rfl] at fin'
        by_cases hi : i < t.types.length
        · rw [ltT hi, condT, List.drop_eq_getElem_cons hi, muchTs]
          cases decide (acc < 3000) with
          | false => rw [condF, condF]; exact fin'
          | true =>
            rw [condT, condT]
            simp only [indexA_map _ _ _ _ hi, bind_some', partA_full (Ty.cells_len _), much_spec _ h (ok.ty (List.getElem_mem hi)), onOut_ret, bin_int, addI]
            rw [incI (by omega)]
            exact ih (i + 1) _ hi (by omega)
        · rw [ltF hi, condF, List.drop_of_length_le (by omega), muchTs]; exact fin'
    refine evw_run primsC (t.kids.length + t.types.length + 1) rfl rfl rfl ?_
    rw [nf48]
    simp only [aggS, bind_some', Val.cells_len, Val.c0, Val.c1, Val.c2, Val.c3, Val.c4, Val.c5, Val.c6, Val.c7, Val.c8, Val.c9, lenS, bin_int, div8, addI, lenA31, List.length_map, show Nat.beq 10 10 = true from rfl]
    rw [condT, Val.much_eq]
    have := loop0 (.lit (.int .i64 t.k)) (.lit (.int .i64 t.n)) (.lit (.int .i64 t.m)) (.lit (.bool t.inn)) (.lit (.string t.s)) (.lit (.string t.df)) (.lit (.int .i64 t.nd)) (.sl 1 (t.labels.map strC)) (t.kids.length + t.types.length + 1) 0 (add64 (add64 (add64 1 (quo8 t.s)) t.labels.length) (quo8 t.df)) (Nat.zero_le _) (by omega)
    rw [List.drop_zero, show ((0 : Nat) : Int) = 0 from rfl] at this
    exact this
  termination_by t => SizeOf.sizeOf t
  decreasing_by exact Val.size_kid hi

end Go.Sh.T

namespace Go.Sh.T
open Go Go.Sh
set_option linter.unusedSimpArgs false
set_option linter.unusedVariables false
set_option maxRecDepth 100000

theorem ty4 : E.ty 4 = some ti4 := by kernel_rfl
theorem ty55 : E.ty 55 = some ti55 := by kernel_rfl
theorem ty66 : E.ty 66 = some ti66 := by kernel_rfl
theorem ty25' : E.ty 25 = some ti25 := by kernel_rfl

theorem bool_of {t : TypeId} {vs : List AV} (h : TypedC E t vs) (e : E.ty t = some ti4) : ∃ b, vs = [.lit (.bool b)] := by
  cases h with
  | bool h hd b => exact ⟨b, rfl⟩
  | int h hd hw => rw [e] at h; cases h; cases hd
  | str h hd hs => rw [e] at h; cases h; cases hd
  | sl h hd hj hl hes => rw [e] at h; cases h; cases hd
  | struct h hd hf => rw [e] at h; cases h; cases hd

theorem at_of {vs : List AV} (h : TypedC E 25 vs) : ∃ (s : ByteArray) (n : Int), vs = [.lit (.string s), .lit (.int .i64 n)] ∧ s.size ≤ maxLen ∧ (Lit.int .i64 n).wf = true := by
  cases h with
  | bool h hd b => rw [ty25'] at h; cases h; cases hd
  | int h hd hw => rw [ty25'] at h; cases h; cases hd
  | str h hd hs => rw [ty25'] at h; cases h; cases hd
  | sl h hd hj hl hes => rw [ty25'] at h; cases h; cases hd
  | struct h hd hf =>
    rw [ty25'] at h; cases h; cases hd
    cases hf with
    | cons h1 hf =>
    cases hf with
    | cons h2 hf =>
    cases hf
    obtain ⟨s, rfl, hs⟩ := str_of h1 ty9
    obtain ⟨n, rfl, hn⟩ := int_of h2 ty3
    exact ⟨s, n, rfl, hs, hn⟩

theorem types_of {vs : List AV} (h : TypedC E 29 vs) : ∃ l : List Ty, vs = [.sl 5 (l.map Ty.cells)] ∧ l.length ≤ maxLen ∧ ∀ s ∈ l, s.Ok := by
  cases h with
  | bool h hd b => rw [ty29] at h; cases h; cases hd
  | int h hd hw => rw [ty29] at h; cases h; cases hd
  | str h hd hs => rw [ty29] at h; cases h; cases hd
  | struct h hd hf => rw [ty29] at h; cases h; cases hd
  | sl h hd hj hl hes =>
    rw [ty29] at h; cases h; cases hd
    rw [ty33] at hj; cases hj
    obtain ⟨l, rfl, hs⟩ := tys_of hes
    exact ⟨l, rfl, by simpa using hl, hs⟩

theorem val_fuel : ∀ n : Nat, (∀ vs : List AV, SizeOf.sizeOf vs < n → TypedC E 66 vs → ∃ x : Val, vs = x.cells ∧ x.Ok) ∧ (∀ es : List (List AV), SizeOf.sizeOf es < n → TypedE E 66 es → ∃ l : List Val, es = l.map Val.cells ∧ ∀ x ∈ l, x.Ok)
  | 0 => ⟨fun _ h => by omega, fun _ h => by omega⟩
  | n + 1 => by
    obtain ⟨ihC, ihE⟩ := val_fuel n
    refine ⟨fun vs hlt h => ?_, fun es hlt h => ?_⟩
    · cases h with
      | bool h hd b => rw [ty66] at h; cases h; cases hd
      | int h hd hw => rw [ty66] at h; cases h; cases hd
      | str h hd hs => rw [ty66] at h; cases h; cases hd
      | sl h hd hj hl hes => rw [ty66] at h; cases h; cases hd
      | struct h hd hf =>
        rw [ty66] at h; cases h; cases hd
        cases hf with
        | cons h1 hf =>
        cases hf with
        | cons h2 hf =>
        cases hf with
        | cons h3 hf =>
        cases hf with
        | cons h4 hf =>
        cases hf with
        | cons h5 hf =>
        cases hf with
        | cons h6 hf =>
        cases hf with
        | cons h7 hf =>
        cases hf with
        | cons h8 hf =>
        cases hf with
        | cons h9 hf =>
        cases hf
        obtain ⟨k, rfl, hk⟩ := int_of h1 ty3
        obtain ⟨m, rfl, hn⟩ := int_of h2 ty3
        obtain ⟨q, rfl, hq⟩ := int_of h3 ty3
        obtain ⟨b, rfl⟩ := bool_of h4 ty4
        obtain ⟨s, rfl, hs⟩ := str_of h5 ty9
        obtain ⟨d, e, rfl, hd, he⟩ := at_of h6
        obtain ⟨ts, rfl, htl, hts⟩ := types_of h7
        obtain ⟨ls, rfl, hl, hls⟩ := labels_of h8
        cases h9 with
        | bool h hd b => rw [ty55] at h; cases h; cases hd
        | int h hd hw => rw [ty55] at h; cases h; cases hd
        | str h hd hs => rw [ty55] at h; cases h; cases hd
        | struct h hd hf => rw [ty55] at h; cases h; cases hd
        | sl h hd' hj hl9 hes =>
          rw [ty55] at h; cases h; cases hd'
          rw [ty66] at hj; cases hj
          obtain ⟨xs, rfl, hx⟩ := ihE _ (by
            simp only [strC, List.flatten_cons, List.flatten_nil, List.cons_append, List.nil_append, List.cons.sizeOf_spec, AV.sl.sizeOf_spec] at hlt
            omega) hes
          exact ⟨⟨k, m, q, b, s, d, e, ts, ls, xs⟩, by rw [Val.cells_eq]; rfl, .mk hs hd htl hts hl hls (by simpa using hl9) hx⟩
    · cases h with
      | nil => exact ⟨[], rfl, fun _ h => by cases h⟩
      | cons h hr =>
        simp only [List.cons.sizeOf_spec] at hlt
        obtain ⟨x, rfl, hx⟩ := ihC _ (by omega) h
        obtain ⟨l, rfl, hl⟩ := ihE _ (by omega) hr
        exact ⟨x :: l, rfl, fun y hy => by
          rcases List.mem_cons.1 hy with e | e
          · rw [e]; exact hx
          · exact hl y e⟩
theorem val_of {vs : List AV} (h : TypedC E 66 vs) : ∃ x : Val, vs = x.cells ∧ x.Ok := (val_fuel _).1 vs (Nat.lt_succ_self _) h
end Go.Sh.T

namespace Go.Sh.T
open Go Go.Sh
set_option maxRecDepth 100000
theorem awake58 : evw E 58 [] [] = some (.ret (.lit (.bool true)), []) := evk 60 (by kernel_rfl)
end Go.Sh.T
