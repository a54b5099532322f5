/- ExC: part of the proof: a shadow of the machine that is proved sound, and what the functions of this seat compute. Conditions: none. -/
import Derived.Test.YthpnngodkjjmoaaExB
import Derived.Test.YthpnngodkjjmoaaExU
import Derived.Test.YthpnngodkjjmoaaShB
import Derived.Test.YthpnngodkjjmoaaRows
/- Expressions, bindings and definitions as plain data. -/
namespace Go.Sh.T
open Go Go.Sh
set_option linter.unusedSimpArgs false
set_option linter.unusedVariables false
set_option maxRecDepth 100000

structure Exp where
  k : Int
  n : Int
  name : ByteArray
  has : Bool
  types : List Ty
  labels : List ByteArray
  kids : List Exp
mutual
def Exp.cells : Exp → List AV
  | ⟨k, n, s, b, ts, ls, xs⟩ => [.lit (.int .i64 k), .lit (.int .i64 n), .lit (.string s), .lit (.bool b), .sl 5 (ts.map Ty.cells), .sl 1 (ls.map strC), .sl 7 (Exp.cellsL xs)]
def Exp.cellsL : List Exp → List (List AV)
  | [] => []
  | t :: r => t.cells :: Exp.cellsL r
end
theorem Exp.cellsL_map : ∀ l : List Exp, Exp.cellsL l = l.map Exp.cells
  | [] => rfl
  | t :: r => by rw [Exp.cellsL, Exp.cellsL_map r]; rfl
theorem Exp.cells_eq (t : Exp) : t.cells = [.lit (.int .i64 t.k), .lit (.int .i64 t.n), .lit (.string t.name), .lit (.bool t.has), .sl 5 (t.types.map Ty.cells), .sl 1 (t.labels.map strC), .sl 7 (t.kids.map Exp.cells)] := by
  cases t; rw [Exp.cells, Exp.cellsL_map]
@[simp] theorem Exp.cells_len (t : Exp) : t.cells.length = 7 := by rw [Exp.cells_eq]; rfl
@[simp] theorem Exp.c0 (t : Exp) : t.cells.getD 0 .dead = .lit (.int .i64 t.k) := by rw [Exp.cells_eq]; rfl
@[simp] theorem Exp.c1 (t : Exp) : t.cells.getD 1 .dead = .lit (.int .i64 t.n) := by rw [Exp.cells_eq]; rfl
@[simp] theorem Exp.c2 (t : Exp) : t.cells.getD 2 .dead = .lit (.string t.name) := by rw [Exp.cells_eq]; rfl
@[simp] theorem Exp.c3 (t : Exp) : t.cells.getD 3 .dead = .lit (.bool t.has) := by rw [Exp.cells_eq]; rfl
@[simp] theorem Exp.c4 (t : Exp) : t.cells.getD 4 .dead = .sl 5 (t.types.map Ty.cells) := by rw [Exp.cells_eq]; rfl
@[simp] theorem Exp.c5 (t : Exp) : t.cells.getD 5 .dead = .sl 1 (t.labels.map strC) := by rw [Exp.cells_eq]; rfl
@[simp] theorem Exp.c6 (t : Exp) : t.cells.getD 6 .dead = .sl 7 (t.kids.map Exp.cells) := by rw [Exp.cells_eq]; rfl
theorem Exp.re (t : Exp) : [t.cells.getD 0 .dead, t.cells.getD 1 .dead, t.cells.getD 2 .dead, t.cells.getD 3 .dead, t.cells.getD 4 .dead, t.cells.getD 5 .dead, t.cells.getD 6 .dead] = t.cells := by
  rw [Exp.cells_eq]; rfl
theorem Exp.refold (t : Exp) : [AV.lit (.int .i64 t.k), .lit (.int .i64 t.n), .lit (.string t.name), .lit (.bool t.has), .sl 5 (t.types.map Ty.cells), .sl 1 (t.labels.map strC), .sl 7 (t.kids.map Exp.cells)] = t.cells := (Exp.cells_eq t).symm
inductive Exp.Ok : Exp → Prop
  | mk {t : Exp} (hk : (Lit.int .i64 t.k).wf = true) (hn : (Lit.int .i64 t.n).wf = true) (hs : t.name.size ≤ maxLen) (htl : t.types.length ≤ maxLen) (hts : ∀ a ∈ t.types, a.Ok) (hl : t.labels.length ≤ maxLen) (hls : ∀ s ∈ t.labels, s.size ≤ maxLen) (ha : t.kids.length ≤ maxLen) (has : ∀ a ∈ t.kids, a.Ok) : t.Ok
theorem Exp.Ok.len {t : Exp} (h : t.Ok) : t.kids.length ≤ maxLen := by cases h with | mk _ _ _ _ _ _ _ ha _ => exact ha
theorem Exp.Ok.kid {t : Exp} (h : t.Ok) {a : Exp} (ha : a ∈ t.kids) : a.Ok := by cases h with | mk _ _ _ _ _ _ _ _ has => exact has a ha
theorem Exp.Ok.tlen {t : Exp} (h : t.Ok) : t.types.length ≤ maxLen := by cases h with | mk _ _ _ ha _ _ _ _ _ => exact ha
theorem Exp.Ok.ty {t : Exp} (h : t.Ok) {a : Ty} (ha : a ∈ t.types) : a.Ok := by cases h with | mk _ _ _ _ has _ _ _ _ => exact has a ha
theorem Exp.Ok.lab {t : Exp} (h : t.Ok) : t.labels.length ≤ maxLen := by cases h with | mk _ _ _ _ _ ha _ _ _ => exact ha
theorem Exp.Ok.str {t : Exp} (h : t.Ok) : t.name.size ≤ maxLen := by cases h with | mk _ _ hs _ _ _ _ _ _ => exact hs
theorem Exp.size_kid {t : Exp} {i : Nat} (hi : i < t.kids.length) : SizeOf.sizeOf t.kids[i] < SizeOf.sizeOf t := by
  have := List.sizeOf_lt_of_mem (List.getElem_mem hi)
  cases t; simp only [Exp.mk.sizeOf_spec] at *; omega
theorem Exp.eqd_eq (a b : Exp) : eqd a b = (eqd a.k b.k && (eqd a.n b.n && (eqd a.name b.name && (eqd a.has b.has && (eqd a.types b.types && (eqd a.labels b.labels && eqd a.kids b.kids)))))) := by
  rw [Bool.eq_iff_iff]
  simp only [Bool.and_eq_true, eqd_iff]
  cases a; cases b
  simp only [Exp.mk.injEq]
theorem Exp.eqd_eq2 (a b : Exp) : eqd a b = (eqd a.k b.k && (eqd a.n b.n && (eqd a.name b.name && (eqd a.has b.has && (eqd a.labels b.labels && (eqd a.types b.types && eqd a.kids b.kids)))))) := by
  rw [Exp.eqd_eq]
  cases eqd a.types b.types <;> cases eqd a.labels b.labels <;> rfl

/- bindings -/
structure Bind where
  name : ByteArray
  ty : Ty
def Bind.cells (b : Bind) : List AV := .lit (.string b.name) :: b.ty.cells
structure Bind.Ok (b : Bind) : Prop where
  name : b.name.size ≤ maxLen
  ty : b.ty.Ok
@[simp] theorem Bind.len (b : Bind) : b.cells.length = 6 := by simp [Bind.cells]
theorem Bind.n0 (b : Bind) : b.cells.getD 0 .dead = .lit (.string b.name) := (Eq.refl _).trans rfl
theorem Bind.re1 (b : Bind) : [b.cells.getD 1 .dead, b.cells.getD 2 .dead, b.cells.getD 3 .dead, b.cells.getD 4 .dead, b.cells.getD 5 .dead] = b.ty.cells := Ty.refold b.ty
theorem Bind.re (b : Bind) : [b.cells.getD 0 .dead, b.cells.getD 1 .dead, b.cells.getD 2 .dead, b.cells.getD 3 .dead, b.cells.getD 4 .dead, b.cells.getD 5 .dead] = b.cells := by
  show b.cells.getD 0 .dead :: [b.cells.getD 1 .dead, b.cells.getD 2 .dead, b.cells.getD 3 .dead, b.cells.getD 4 .dead, b.cells.getD 5 .dead] = _
  rw [Bind.re1, Bind.n0]; rfl
theorem Bind.p0 (b : Bind) : partA false 1 0 (b.cells.drop 0) = some (.lit (.string b.name)) := (Eq.refl _).trans rfl
theorem Bind.p1 (b : Bind) : partA true 5 0 (b.cells.drop 1) = some (.agg b.ty.cells) := partA_full (Ty.cells_len _)
theorem Bind.eqd_eq (a b : Bind) : eqd a b = (eqd a.name b.name && eqd a.ty b.ty) := by
  rw [Bool.eq_iff_iff]
  simp only [Bool.and_eq_true, eqd_iff]
  cases a; cases b
  simp only [Bind.mk.injEq]

/- what a definition promises; definitions -/
structure Sig where
  name : ByteArray
  bs : List Bind
  ps : List Bind
  res : Ty
def Sig.cells (s : Sig) : List AV := .lit (.string s.name) :: .sl 6 (s.bs.map Bind.cells) :: .sl 6 (s.ps.map Bind.cells) :: s.res.cells
structure Sig.Ok (s : Sig) : Prop where
  name : s.name.size ≤ maxLen
  bl : s.bs.length ≤ maxLen
  bs : ∀ b ∈ s.bs, b.Ok
  pl : s.ps.length ≤ maxLen
  ps : ∀ b ∈ s.ps, b.Ok
  res : s.res.Ok
@[simp] theorem Sig.len (s : Sig) : s.cells.length = 8 := by simp [Sig.cells]
theorem Sig.c0 (s : Sig) : s.cells.getD 0 .dead = .lit (.string s.name) := (Eq.refl _).trans rfl
theorem Sig.c1 (s : Sig) : s.cells.getD 1 .dead = .sl 6 (s.bs.map Bind.cells) := (Eq.refl _).trans rfl
theorem Sig.c2 (s : Sig) : s.cells.getD 2 .dead = .sl 6 (s.ps.map Bind.cells) := (Eq.refl _).trans rfl
theorem Sig.re3 (s : Sig) : [s.cells.getD 3 .dead, s.cells.getD 4 .dead, s.cells.getD 5 .dead, s.cells.getD 6 .dead, s.cells.getD 7 .dead] = s.res.cells := Ty.refold s.res
theorem Sig.re (s : Sig) : [s.cells.getD 0 .dead, s.cells.getD 1 .dead, s.cells.getD 2 .dead, s.cells.getD 3 .dead, s.cells.getD 4 .dead, s.cells.getD 5 .dead, s.cells.getD 6 .dead, s.cells.getD 7 .dead] = s.cells := by
  show s.cells.getD 0 .dead :: s.cells.getD 1 .dead :: s.cells.getD 2 .dead :: [s.cells.getD 3 .dead, s.cells.getD 4 .dead, s.cells.getD 5 .dead, s.cells.getD 6 .dead, s.cells.getD 7 .dead] = _
  rw [Sig.re3]; rfl
theorem Sig.eqd_eq (a b : Sig) : eqd a b = (eqd a.name b.name && (eqd a.bs b.bs && (eqd a.ps b.ps && eqd a.res b.res))) := by
  rw [Bool.eq_iff_iff]
  simp only [Bool.and_eq_true, eqd_iff]
  cases a; cases b
  simp only [Sig.mk.injEq]
structure Def where
  sig : Sig
  body : Exp
def Def.cells (d : Def) : List AV := d.sig.cells ++ d.body.cells
structure Def.Ok (d : Def) : Prop where
  sig : d.sig.Ok
  body : d.body.Ok
@[simp] theorem Def.len (d : Def) : d.cells.length = 15 := by simp [Def.cells]
theorem Def.get_sig (d : Def) (i : Nat) (h : i < 8) : d.cells.getD i .dead = d.sig.cells.getD i .dead := by
  rw [Def.cells, List.getD_eq_getElem?_getD, List.getElem?_append_left (by rw [Sig.len]; exact h), ← List.getD_eq_getElem?_getD]
theorem Def.get_body (d : Def) (i : Nat) : d.cells.getD (8 + i) .dead = d.body.cells.getD i .dead := by
  rw [Def.cells, List.getD_eq_getElem?_getD, List.getElem?_append_right (by rw [Sig.len]; omega), Sig.len, Nat.add_sub_cancel_left, ← List.getD_eq_getElem?_getD]
theorem Def.c0 (d : Def) : d.cells.getD 0 .dead = .lit (.string d.sig.name) := by rw [d.get_sig 0 (by decide), Sig.c0]
theorem Def.c1 (d : Def) : d.cells.getD 1 .dead = .sl 6 (d.sig.bs.map Bind.cells) := by rw [d.get_sig 1 (by decide), Sig.c1]
theorem Def.c2 (d : Def) : d.cells.getD 2 .dead = .sl 6 (d.sig.ps.map Bind.cells) := by rw [d.get_sig 2 (by decide), Sig.c2]
theorem Def.reSig (d : Def) : [d.cells.getD 0 .dead, d.cells.getD 1 .dead, d.cells.getD 2 .dead, d.cells.getD 3 .dead, d.cells.getD 4 .dead, d.cells.getD 5 .dead, d.cells.getD 6 .dead, d.cells.getD 7 .dead] = d.sig.cells := by
  rw [d.get_sig 0 (by decide), d.get_sig 1 (by decide), d.get_sig 2 (by decide), d.get_sig 3 (by decide), d.get_sig 4 (by decide), d.get_sig 5 (by decide), d.get_sig 6 (by decide), d.get_sig 7 (by decide), Sig.re]
theorem Def.reRes (d : Def) : [d.cells.getD 3 .dead, d.cells.getD 4 .dead, d.cells.getD 5 .dead, d.cells.getD 6 .dead, d.cells.getD 7 .dead] = d.sig.res.cells := by
  rw [d.get_sig 3 (by decide), d.get_sig 4 (by decide), d.get_sig 5 (by decide), d.get_sig 6 (by decide), d.get_sig 7 (by decide), Sig.re3]
theorem Def.reBody (d : Def) : [d.cells.getD 8 .dead, d.cells.getD 9 .dead, d.cells.getD 10 .dead, d.cells.getD 11 .dead, d.cells.getD 12 .dead, d.cells.getD 13 .dead, d.cells.getD 14 .dead] = d.body.cells := by
  have h0 := d.get_body 0; have h1 := d.get_body 1; have h2 := d.get_body 2; have h3 := d.get_body 3; have h4 := d.get_body 4; have h5 := d.get_body 5; have h6 := d.get_body 6
  simp only [Nat.add_zero, Nat.reduceAdd] at h0 h1 h2 h3 h4 h5 h6
  rw [h0, h1, h2, h3, h4, h5, h6, Exp.re]
theorem Def.re (d : Def) : [d.cells.getD 0 .dead, d.cells.getD 1 .dead, d.cells.getD 2 .dead, d.cells.getD 3 .dead, d.cells.getD 4 .dead, d.cells.getD 5 .dead, d.cells.getD 6 .dead, d.cells.getD 7 .dead, d.cells.getD 8 .dead, d.cells.getD 9 .dead, d.cells.getD 10 .dead, d.cells.getD 11 .dead, d.cells.getD 12 .dead, d.cells.getD 13 .dead, d.cells.getD 14 .dead] = d.cells := by
  have h1 := d.reSig; have h2 := d.reBody
  have : ∀ a b c d e f g h i j k l m n o : AV, [a, b, c, d, e, f, g, h, i, j, k, l, m, n, o] = [a, b, c, d, e, f, g, h] ++ [i, j, k, l, m, n, o] := fun _ _ _ _ _ _ _ _ _ _ _ _ _ _ _ => rfl
  rw [this, h1, h2]; rfl
theorem Def.eqd_eq (a b : Def) : eqd a b = (eqd a.sig b.sig && eqd a.body b.body) := by
  rw [Bool.eq_iff_iff]
  simp only [Bool.and_eq_true, eqd_iff]
  cases a; cases b
  simp only [Def.mk.injEq]
end Go.Sh.T

/- Sameness of expressions and definitions; how much they have. -/
namespace Go.Sh.T
open Go Go.Sh
set_option linter.unusedSimpArgs false
set_option linter.unusedVariables false
set_option maxRecDepth 100000
theorem lenA24 (es : List (List AV)) : lenA E 24 (.sl 7 es) = some (es.length : Int) := (Eq.refl _).trans (by kernel_rfl)
theorem lenA39 (es : List (List AV)) : lenA E 39 (.sl 6 es) = some (es.length : Int) := (Eq.refl _).trans (by kernel_rfl)
theorem same66 (l m : List Exp) (hl : l.length ≤ maxLen) (h : Heap) (rec : ∀ i (h1 : i < l.length) (h2 : i < m.length), evw E 31 [.agg (l[i]).cells, .agg (m[i]).cells] h = some (.ret (.lit (.bool (eqd l[i] m[i]))), h)) : evw E 66 [.sl 7 (l.map Exp.cells), .sl 7 (m.map Exp.cells), .fn 31 [] []] h = some (.ret (.lit (.bool (eqd l m))), h) := by
  have hl : l.length ≤ 9223372036854775807 := hl
  have loop : ∀ (q i : Nat), l.length = m.length → i ≤ l.length → l.length < q + i → Lp66_0 (evw E) (l.length + 1) h q h (.sl 7 (m.map Exp.cells)) (.fn 31 [] []) (.sl 7 (l.map Exp.cells)) (.lit (.int .i64 (l.length : Int))) (.lit (.int .i64 (i : Int))) = some (.ret (.lit (.bool (eqd (l.drop i) (m.drop i)))), h) := by
    intro q
    induction q with
    | zero => intro i _ h1 h2; omega
    | succ q ih =>
      intro i he h1 h2
      rw [Lp66_0_succ, bin_int, lssI, bind_some', boolB, bind_some']
      by_cases hi : i < l.length
      · have hj : i < m.length := by omega
        rw [ltT hi, condT, indexA_map _ _ _ _ hi, bind_some', partA_full (Exp.cells_len _), bind_some', aggS, bind_some', Exp.cells_len, show Nat.beq 7 7 = true from rfl, condT, indexA_map _ _ _ _ hj, bind_some', partA_full (Exp.cells_len _), bind_some', aggS, bind_some', Exp.cells_len, show Nat.beq 7 7 = true from rfl, condT, Exp.re, Exp.re, apply_fn, rec i hi hj, onOut_ret, notB, bind_some', boolB, bind_some', List.drop_eq_getElem_cons hi, List.drop_eq_getElem_cons hj, eqd_cons, bin_int, addI, bind_some', incI (by omega)]
        cases e : eqd l[i] m[i] with
        | false => rfl
        | true => exact ih (i + 1) he hi (by omega)
      · rw [ltF hi, condF, List.drop_of_length_le (by omega), List.drop_of_length_le (by omega), eqd_self]
  refine evw_run primsC (l.length + 1) rfl rfl rfl ?_
  rw [nf66]
  simp only [lenA24, bind_some', bin_int, neqI, boolB, List.length_map]
  by_cases he : l.length = m.length
  · have := loop (l.length + 1) 0 he (Nat.zero_le _) (by omega)
    rw [show ((l.length : Int) != (m.length : Int)) = false from by rw [he]; simp, condF]
    rw [show ((0 : Nat) : Int) = 0 from rfl, List.drop_zero, List.drop_zero] at this
    exact this
  · rw [show ((l.length : Int) != (m.length : Int)) = true from by rw [bne_iff_ne]; omega, condT, eqd_len he]

theorem same91 (l m : List Bind) (hl : l.length ≤ maxLen) (h : Heap) (rec : ∀ i (h1 : i < l.length) (h2 : i < m.length), evw E 92 [.agg (l[i]).cells, .agg (m[i]).cells] h = some (.ret (.lit (.bool (eqd l[i] m[i]))), h)) : evw E 91 [.sl 6 (l.map Bind.cells), .sl 6 (m.map Bind.cells), .fn 92 [] []] h = some (.ret (.lit (.bool (eqd l m))), h) := by
  have hl : l.length ≤ 9223372036854775807 := hl
  have loop : ∀ (q i : Nat), l.length = m.length → i ≤ l.length → l.length < q + i → Lp91_0 (evw E) (l.length + 1) h q h (.sl 6 (m.map Bind.cells)) (.fn 92 [] []) (.sl 6 (l.map Bind.cells)) (.lit (.int .i64 (l.length : Int))) (.lit (.int .i64 (i : Int))) = some (.ret (.lit (.bool (eqd (l.drop i) (m.drop i)))), h) := by
    intro q
    induction q with
    | zero => intro i _ h1 h2; omega
    | succ q ih =>
      intro i he h1 h2
      rw [Lp91_0_succ, bin_int, lssI, bind_some', boolB, bind_some']
      by_cases hi : i < l.length
      · have hj : i < m.length := by omega
        rw [ltT hi, condT, indexA_map _ _ _ _ hi, bind_some', partA_full (Bind.len _), bind_some', aggS, bind_some', Bind.len, show Nat.beq 6 6 = true from rfl, condT, indexA_map _ _ _ _ hj, bind_some', partA_full (Bind.len _), bind_some', aggS, bind_some', Bind.len, show Nat.beq 6 6 = true from rfl, condT, Bind.re, Bind.re, apply_fn, rec i hi hj, onOut_ret, notB, bind_some', boolB, bind_some', List.drop_eq_getElem_cons hi, List.drop_eq_getElem_cons hj, eqd_cons, bin_int, addI, bind_some', incI (by omega)]
        cases e : eqd l[i] m[i] with
        | false => rfl
        | true => exact ih (i + 1) he hi (by omega)
      · rw [ltF hi, condF, List.drop_of_length_le (by omega), List.drop_of_length_le (by omega), eqd_self]
  refine evw_run primsC (l.length + 1) rfl rfl rfl ?_
  rw [nf91]
  simp only [lenA39, bind_some', bin_int, neqI, boolB, List.length_map]
  by_cases he : l.length = m.length
  · have := loop (l.length + 1) 0 he (Nat.zero_le _) (by omega)
    rw [show ((l.length : Int) != (m.length : Int)) = false from by rw [he]; simp, condF]
    rw [show ((0 : Nat) : Int) = 0 from rfl, List.drop_zero, List.drop_zero] at this
    exact this
  · rw [show ((l.length : Int) != (m.length : Int)) = true from by rw [bne_iff_ne]; omega, condT, eqd_len he]

theorem b7 : Nat.beq 7 7 = true := rfl
theorem b6 : Nat.beq 6 6 = true := rfl
theorem b8 : Nat.beq 8 8 = true := rfl
theorem b15 : Nat.beq 15 15 = true := rfl
theorem b5 : Nat.beq 5 5 = true := rfl
theorem same64 (l m : List Ty) (hl : l.length ≤ maxLen) (ol : ∀ a ∈ l, a.Ok) (h : Heap) : evw E 64 [.sl 5 (l.map Ty.cells), .sl 5 (m.map Ty.cells), .fn 65 [] []] h = some (.ret (.lit (.bool (eqd l m))), h) :=
  same100 l m hl h fun i h1 h2 => same101 l[i] m[i] h (ol _ (List.getElem_mem h1))
theorem same49 (l m : List Ty) (hl : l.length ≤ maxLen) (ol : ∀ a ∈ l, a.Ok) (h : Heap) : evw E 49 [.sl 5 (l.map Ty.cells), .sl 5 (m.map Ty.cells)] h = some (.ret (.lit (.bool (eqd l m))), h) :=
  same96 l m hl h fun i h1 h2 => same23 l[i] m[i] h (ol _ (List.getElem_mem h1))
theorem same31 : ∀ (t u : Exp) (h : Heap), t.Ok → evw E 31 [.agg t.cells, .agg u.cells] h = some (.ret (.lit (.bool (eqd t u))), h)
  | t, u, h, ok => by
    have hrec := same66 t.kids u.kids ok.len h fun i h1 h2 => same31 t.kids[i] u.kids[i] h (ok.kid (List.getElem_mem h1))
    refine evw_run primsC 0 rfl rfl rfl ?_
    rw [nf31]
    simp only [aggS, bind_some', Exp.cells_len, b7, condT, Exp.c0, Exp.c1, Exp.c2, Exp.c3, Exp.c4, Exp.c5, Exp.c6, bin_int, eqlI, int_eqd, bin_str, eqSt, eqB, boolB, same102 _ _ ok.lab, same64 _ _ ok.tlen (fun a ha => ok.ty ha), hrec, onOut_ret]
    rw [Exp.eqd_eq2]
    repeat (first | refine guardN ?_ | refine guardP ?_)
    all_goals rfl
  termination_by t => SizeOf.sizeOf t
  decreasing_by exact Exp.size_kid h1
theorem same20 : ∀ (t u : Exp) (h : Heap), t.Ok → evw E 20 [.agg t.cells, .agg u.cells] h = some (.ret (.lit (.bool (eqd t u))), h)
  | t, u, h, ok => by
    have hlen : t.kids.length ≤ 9223372036854775807 := ok.len
    have loop : ∀ (x0 x1 x2 x3 x4 x5 y0 y1 y2 y3 y4 y5 : AV) (q i : Nat), t.kids.length = u.kids.length → i ≤ t.kids.length → t.kids.length < q + i → Lp20_0 (evw E) (t.kids.length + 1) h q h x0 x1 x2 x3 x4 x5 (.sl 7 (t.kids.map Exp.cells)) y0 y1 y2 y3 y4 y5 (.sl 7 (u.kids.map Exp.cells)) (.lit (.int .i64 (i : Int))) = some (.ret (.lit (.bool (eqd (t.kids.drop i) (u.kids.drop i)))), h) := by
      intro x0 x1 x2 x3 x4 x5 y0 y1 y2 y3 y4 y5 q
      induction q with
      | zero => intro i _ h1 h2; omega
      | succ q ih =>
        intro i he h1 h2
        rw [Lp20_0_succ]
        simp only [lenA24, bind_some', bin_int, lssI, boolB, List.length_map]
        by_cases hi : i < t.kids.length
        · have hj : i < u.kids.length := by omega
          have hrec := same20 t.kids[i] u.kids[i] h (ok.kid (List.getElem_mem hi))
          rw [ltT hi, condT, ltT hj, condT, indexA_map _ _ _ _ hi, bind_some', partA_full (Exp.cells_len _), bind_some', indexA_map _ _ _ _ hj, bind_some', partA_full (Exp.cells_len _), bind_some', hrec, onOut_ret, notB, bind_some', boolB, bind_some', List.drop_eq_getElem_cons hi, List.drop_eq_getElem_cons hj, eqd_cons, addI, bind_some', incI (by omega)]
          cases e : eqd t.kids[i] u.kids[i] with
          | false => rfl
          | true => exact ih (i + 1) he hi (by omega)
        · rw [ltF hi, condF, List.drop_of_length_le (by omega), List.drop_of_length_le (by omega), eqd_self]
    refine evw_run primsC (t.kids.length + 1) rfl rfl rfl ?_
    rw [nf20]
    simp only [aggS, bind_some', Exp.cells_len, b7, condT, Exp.c0, Exp.c1, Exp.c2, Exp.c3, Exp.c4, Exp.c5, Exp.c6, bin_int, neqI, bin_str, neS, neB, boolB, notB, same79e _ _ ok.lab, same49 _ _ ok.tlen (fun a ha => ok.ty ha), onOut_ret, lenA24, List.length_map]
    rw [Exp.eqd_eq, int_ne t.k, int_ne t.n]
    have hk : ∀ (x0 x1 x2 x3 x4 x5 y0 y1 y2 y3 y4 y5 : AV), cond ((t.kids.length : Int) != (u.kids.length : Int)) (some (Out.ret (.lit (.bool false)), h)) (Lp20_0 (evw E) (t.kids.length + 1) h (t.kids.length + 1) h x0 x1 x2 x3 x4 x5 (.sl 7 (t.kids.map Exp.cells)) y0 y1 y2 y3 y4 y5 (.sl 7 (u.kids.map Exp.cells)) (.lit (.int .i64 0))) = some (.ret (.lit (.bool (eqd t.kids u.kids))), h) := by
      intro x0 x1 x2 x3 x4 x5 y0 y1 y2 y3 y4 y5
      by_cases he : t.kids.length = u.kids.length
      · have := loop x0 x1 x2 x3 x4 x5 y0 y1 y2 y3 y4 y5 (t.kids.length + 1) 0 he (Nat.zero_le _) (by omega)
        rw [show ((t.kids.length : Int) != (u.kids.length : Int)) = false from by rw [he]; simp, condF]
        rw [show ((0 : Nat) : Int) = 0 from rfl, List.drop_zero, List.drop_zero] at this
        exact this
      · rw [show ((t.kids.length : Int) != (u.kids.length : Int)) = true from by rw [bne_iff_ne]; omega, condT, eqd_len he]
    rw [hk]
    repeat (first | refine guardN ?_ | refine guardP ?_)
    all_goals rfl
  termination_by t => SizeOf.sizeOf t
  decreasing_by exact Exp.size_kid hi
/- bindings, signatures, definitions -/
theorem same92 (a b : Bind) (h : Heap) (oa : a.Ok) : evw E 92 [.agg a.cells, .agg b.cells] h = some (.ret (.lit (.bool (eqd a b))), h) := by
  refine evw_run primsC 0 rfl rfl rfl ?_
  rw [nf92]
  simp only [aggS, bind_some', Bind.len, b6, condT, Bind.n0, bin_str, eqSt, boolB, Bind.re1, same101 _ _ _ oa.ty, onOut_ret]
  rw [Bind.eqd_eq]
  repeat (first | refine guardN ?_ | refine guardP ?_)
  all_goals rfl
theorem same67 (l m : List Bind) (hl : l.length ≤ maxLen) (ol : ∀ a ∈ l, a.Ok) (h : Heap) : evw E 67 [.sl 6 (l.map Bind.cells), .sl 6 (m.map Bind.cells)] h = some (.ret (.lit (.bool (eqd l m))), h) := by
  refine evw_run primsC 0 rfl rfl rfl ?_
  rw [nf67, same91 l m hl h fun i h1 h2 => same92 l[i] m[i] h (ol _ (List.getElem_mem h1)), onOut_ret]
theorem same68 (l m : List Bind) (hl : l.length ≤ maxLen) (ol : ∀ a ∈ l, a.Ok) (h : Heap) : evw E 68 [.sl 6 (l.map Bind.cells), .sl 6 (m.map Bind.cells)] h = some (.ret (.lit (.bool (eqd l m))), h) := by
  have hl : l.length ≤ 9223372036854775807 := hl
  have loop : ∀ (q i : Nat), l.length = m.length → i ≤ l.length → l.length < q + i → Lp68_0 (evw E) (l.length + 1) h q h (.sl 6 (l.map Bind.cells)) (.sl 6 (m.map Bind.cells)) (.lit (.int .i64 (i : Int))) = some (.ret (.lit (.bool (eqd (l.drop i) (m.drop i)))), h) := by
    intro q
    induction q with
    | zero => intro i _ h1 h2; omega
    | succ q ih =>
      intro i he h1 h2
      rw [Lp68_0_succ]
      simp only [lenA39, bind_some', bin_int, lssI, boolB, List.length_map]
      by_cases hi : i < l.length
      · have hj : i < m.length := by omega
        rw [ltT hi, condT, ltT hj, condT]
        simp only [indexA_map _ _ _ _ hi, indexA_map _ _ _ _ hj, bind_some', Bind.len, show Nat.ble 0 6 = true from rfl, show Nat.ble 1 6 = true from rfl, condT, Bind.p0, Bind.p1, bin_str, neS, boolB, same23 _ _ _ (ol _ (List.getElem_mem hi)).ty, onOut_ret, notB, addI]
        rw [incI (by omega), List.drop_eq_getElem_cons hi, List.drop_eq_getElem_cons hj, eqd_cons, Bind.eqd_eq]
        cases e : eqd (l[i]).name (m[i]).name with
        | false => rfl
        | true =>
          cases e : eqd (l[i]).ty (m[i]).ty with
          | false => rfl
          | true => exact ih (i + 1) he hi (by omega)
      · rw [ltF hi, condF, List.drop_of_length_le (by omega), List.drop_of_length_le (by omega), eqd_self]
  refine evw_run primsC (l.length + 1) rfl rfl rfl ?_
  rw [nf68]
  simp only [lenA39, bind_some', bin_int, neqI, boolB, List.length_map]
  by_cases he : l.length = m.length
  · have := loop (l.length + 1) 0 he (Nat.zero_le _) (by omega)
    rw [show ((l.length : Int) != (m.length : Int)) = false from by rw [he]; simp, condF]
    rw [show ((0 : Nat) : Int) = 0 from rfl, List.drop_zero, List.drop_zero] at this
    exact this
  · rw [show ((l.length : Int) != (m.length : Int)) = true from by rw [bne_iff_ne]; omega, condT, eqd_len he]
theorem same32 (a b : Sig) (h : Heap) (oa : a.Ok) : evw E 32 [.agg a.cells, .agg b.cells] h = some (.ret (.lit (.bool (eqd a b))), h) := by
  refine evw_run primsC 0 rfl rfl rfl ?_
  rw [nf32]
  simp only [aggS, bind_some', Sig.len, b8, condT, Sig.c0, Sig.c1, Sig.c2, bin_str, eqSt, boolB, Sig.re3, same67 _ _ oa.bl oa.bs, same67 _ _ oa.pl oa.ps, same101 _ _ _ oa.res, onOut_ret]
  rw [Sig.eqd_eq]
  repeat (first | refine guardN ?_ | refine guardP ?_)
  all_goals rfl
theorem same33 (a b : Sig) (h : Heap) (oa : a.Ok) : evw E 33 [.agg a.cells, .agg b.cells] h = some (.ret (.lit (.bool (eqd a b))), h) := by
  refine evw_run primsC 0 rfl rfl rfl ?_
  rw [nf33]
  simp only [aggS, bind_some', Sig.len, b8, condT, Sig.c0, Sig.c1, Sig.c2, bin_str, eqSt, boolB, Sig.re3, same68 _ _ oa.bl oa.bs, same68 _ _ oa.pl oa.ps, same23 _ _ _ oa.res, onOut_ret]
  rw [Sig.eqd_eq]
  repeat (first | refine guardN ?_ | refine guardP ?_)
  all_goals rfl
theorem same34 (a b : Def) (h : Heap) (oa : a.Ok) : evw E 34 [.agg a.cells, .agg b.cells] h = some (.ret (.lit (.bool (eqd a b))), h) := by
  refine evw_run primsC 0 rfl rfl rfl ?_
  rw [nf34]
  simp only [aggS, bind_some', Def.len, b15, condT, Def.reSig, Def.reBody, boolB, same32 _ _ _ oa.sig, same31 _ _ _ oa.body, onOut_ret]
  rw [Def.eqd_eq]
  repeat (first | refine guardN ?_ | refine guardP ?_)
  all_goals rfl
theorem same35 (a b : Def) (h : Heap) (oa : a.Ok) : evw E 35 [.agg a.cells, .agg b.cells] h = some (.ret (.lit (.bool (eqd a b))), h) := by
  refine evw_run primsC 0 rfl rfl rfl ?_
  rw [nf35]
  simp only [aggS, bind_some', Def.len, b15, condT, Def.reSig, Def.reBody, boolB, same33 _ _ _ oa.sig, same20 _ _ _ oa.body, onOut_ret]
  rw [Def.eqd_eq]
  repeat (first | refine guardN ?_ | refine guardP ?_)
  all_goals rfl

/- how much -/
def muchTs (n : Int) : List Ty → Int
  | [] => n
  | t :: r => bif decide (n < 3000) then muchTs (add64 n t.much) r else n
mutual
def Exp.much : Exp → Int
  | ⟨_, _, s, _, ts, ls, xs⟩ => Exp.muchL (muchTs (labs (add64 (add64 1 (quo8 s)) ls.length) (ls.take 1000)) ts) xs
def Exp.muchL (n : Int) : List Exp → Int
  | [] => n
  | t :: r => bif decide (n < 3000) then Exp.muchL (add64 n t.much) r else n
end
theorem Exp.much_eq (t : Exp) : t.much = Exp.muchL (muchTs (labs (add64 (add64 1 (quo8 t.name)) t.labels.length) (t.labels.take 1000)) t.types) t.kids := by cases t; rw [Exp.much]
theorem much7 : ∀ (t : Exp) (h : Heap), t.Ok → evw E 7 [.agg t.cells] h = some (.ret (.lit (.int .i64 t.much)), h)
  | t, h, ok => by
    have hlen : t.kids.length ≤ 9223372036854775807 := ok.len
    have htl : t.types.length ≤ 9223372036854775807 := ok.tlen
    have hlab : t.labels.length ≤ 9223372036854775807 := ok.lab
    obtain ⟨N, hN⟩ : ∃ N, N = t.kids.length + t.types.length + t.labels.length + 1 := ⟨_, rfl⟩
    have loop2 : ∀ (x0 x1 x2 x3 x4 x5 : AV) (m i : Nat) (acc : Int), i ≤ t.kids.length → t.kids.length < m + i → Lp7_2 (evw E) N h m h x0 x1 x2 x3 x4 x5 (.sl 7 (t.kids.map Exp.cells)) (.lit (.int .i64 acc)) (.lit (.int .i64 (i : Int))) = some (.ret (.lit (.int .i64 (Exp.muchL acc (t.kids.drop i)))), h) := by
      intro x0 x1 x2 x3 x4 x5 m
      induction m with
      | zero => intro i acc h1 h2; omega
      | succ m ih =>
        intro i acc h1 h2
        rw [Lp7_2_succ]
        simp only [lenA24, bind_some', bin_int, lssI, boolB, List.length_map]
        by_cases hi : i < t.kids.length
        · have hrec := much7 (t.kids[i]) h (ok.kid (List.getElem_mem hi))
          rw [ltT hi, condT, List.drop_eq_getElem_cons hi, Exp.muchL]
          cases decide (acc < 3000) with
          | false => rfl
          | true =>
            rw [condT, condT]
            simp only [indexA_map _ _ _ _ hi, bind_some', partA_full (Exp.cells_len _), hrec, onOut_ret, bin_int, addI]
            rw [incI (by omega)]
            exact ih (i + 1) _ hi (by omega)
        · rw [ltF hi, condF, List.drop_of_length_le (by omega), Exp.muchL]
    have loop1 : ∀ (x0 x1 x2 x3 x5 : AV) (m i : Nat) (acc : Int), i ≤ t.types.length → t.types.length < m + i → Lp7_1 (evw E) N h m h x0 x1 x2 x3 (.sl 5 (t.types.map Ty.cells)) x5 (.sl 7 (t.kids.map Exp.cells)) (.lit (.int .i64 acc)) (.lit (.int .i64 (i : Int))) = some (.ret (.lit (.int .i64 (Exp.muchL (muchTs acc (t.types.drop i)) t.kids))), h) := by
      intro x0 x1 x2 x3 x5 m
      have fin := fun acc => loop2 x0 x1 x2 x3 (.sl 5 (t.types.map Ty.cells)) x5 N 0 acc (Nat.zero_le _) (by omega)
      induction m with
      | zero => intro i acc h1 h2; omega
      | succ m ih =>
        intro i acc h1 h2
        rw [Lp7_1_succ]
        simp only [lenA22, bind_some', bin_int, lssI, boolB, List.length_map]
        have fin' := fin acc
        rw [List.drop_zero, show ((0 : Nat) : Int) = 0 from rfl] at fin'
        by_cases hi : i < t.types.length
        · rw [ltT hi, condT, List.drop_eq_getElem_cons hi, muchTs]
          cases decide (acc < 3000) with
          | false => rw [condF, condF]; exact fin'
          | true =>
            rw [condT, condT]
            simp only [indexA_map _ _ _ _ hi, bind_some', partA_full (Ty.cells_len _), much_spec _ h (ok.ty (List.getElem_mem hi)), onOut_ret, bin_int, addI]
            rw [incI (by omega)]
            exact ih (i + 1) _ hi (by omega)
        · rw [ltF hi, condF, List.drop_of_length_le (by omega), muchTs]; exact fin'
    have loop0 : ∀ (x0 x1 x2 x3 : AV) (m i : Nat) (acc : Int), i ≤ t.labels.length → t.labels.length < m + i → Lp7_0 (evw E) N h m h x0 x1 x2 x3 (.sl 5 (t.types.map Ty.cells)) (.sl 1 (t.labels.map strC)) (.sl 7 (t.kids.map Exp.cells)) (.lit (.int .i64 acc)) (.lit (.int .i64 (i : Int))) = some (.ret (.lit (.int .i64 (Exp.muchL (muchTs (labs acc ((t.labels.drop i).take (1000 - i))) t.types) t.kids))), h) := by
      intro x0 x1 x2 x3 m
      have fin := fun acc => loop1 x0 x1 x2 x3 (.sl 1 (t.labels.map strC)) N 0 acc (Nat.zero_le _) (by omega)
      induction m with
      | zero => intro i acc h1 h2; omega
      | succ m ih =>
        intro i acc h1 h2
        rw [Lp7_0_succ]
        simp only [lenA23, bind_some', bin_int, lssI, boolB, List.length_map]
        have fin' := fin acc
        rw [List.drop_zero, show ((0 : Nat) : Int) = 0 from rfl] at fin'
        by_cases hi : i < t.labels.length
        · rw [ltT hi, condT]
          by_cases hk : i < 1000
          · rw [show decide ((i : Int) < 1000) = true from by simp; omega, condT]
            simp only [indexA_map _ _ _ _ hi, bind_some', part_str, lenS, bin_int, div8, addI]
            rw [incI (by omega), List.drop_eq_getElem_cons hi, show 1000 - i = (1000 - (i + 1)) + 1 from by omega, List.take_succ_cons, labs]
            exact ih (i + 1) _ hi (by omega)
          · rw [show decide ((i : Int) < 1000) = false from by simp; omega, condF, show 1000 - i = 0 from by omega, List.take_zero, labs]
            exact fin'
        · rw [ltF hi, condF, List.drop_of_length_le (by omega), List.take_nil, labs]
          exact fin'
    refine evw_run primsC N rfl rfl rfl ?_
    rw [nf7]
    simp only [aggS, bind_some', Exp.cells_len, Exp.c0, Exp.c1, Exp.c2, Exp.c3, Exp.c4, Exp.c5, Exp.c6, lenS, bin_int, div8, addI, lenA23, List.length_map, b7]
    rw [condT, Exp.much_eq]
    have := loop0 (.lit (.int .i64 t.k)) (.lit (.int .i64 t.n)) (.lit (.string t.name)) (.lit (.bool t.has)) N 0 (add64 (add64 1 (quo8 t.name)) t.labels.length) (Nat.zero_le _) (by omega)
    rw [List.drop_zero, show ((0 : Nat) : Int) = 0 from rfl] at this
    exact this
  termination_by t => SizeOf.sizeOf t
  decreasing_by exact Exp.size_kid hi
def bindsL (n : Int) : List Bind → Int
  | [] => n
  | b :: r => bif decide (n < 3000) then bindsL (add64 (add64 n b.ty.much) (quo8 b.name)) r else n
theorem binds56 (l : List Bind) (hl : l.length ≤ maxLen) (ol : ∀ a ∈ l, a.Ok) (h : Heap) : evw E 56 [.sl 6 (l.map Bind.cells)] h = some (.ret (.lit (.int .i64 (bindsL l.length l))), h) := by
  have hl : l.length ≤ 9223372036854775807 := hl
  have loop : ∀ (m i : Nat) (acc : Int), i ≤ l.length → l.length < m + i → Lp56_0 (evw E) (l.length + 1) h m h (.sl 6 (l.map Bind.cells)) (.lit (.int .i64 acc)) (.lit (.int .i64 (i : Int))) = some (.ret (.lit (.int .i64 (bindsL acc (l.drop i)))), h) := by
    intro m
    induction m with
    | zero => intro i acc h1 h2; omega
    | succ m ih =>
      intro i acc h1 h2
      rw [Lp56_0_succ]
      simp only [lenA39, bind_some', bin_int, lssI, boolB, List.length_map]
      by_cases hi : i < l.length
      · rw [ltT hi, condT, List.drop_eq_getElem_cons hi, bindsL]
        cases decide (acc < 3000) with
        | false => rfl
        | true =>
          rw [condT, condT]
          simp only [indexA_map _ _ _ _ hi, bind_some', Bind.len, show Nat.ble 1 6 = true from rfl, show Nat.ble 0 6 = true from rfl, condT, Bind.p1, Bind.p0, much_spec _ h (ol _ (List.getElem_mem hi)).ty, onOut_ret, bin_int, addI, lenS, div8]
          rw [incI (by omega)]
          exact ih (i + 1) _ hi (by omega)
      · rw [ltF hi, condF, List.drop_of_length_le (by omega), bindsL]
  refine evw_run primsC (l.length + 1) rfl rfl rfl ?_
  rw [nf56]
  simp only [lenA39, bind_some', List.length_map]
  have := loop (l.length + 1) 0 l.length (Nat.zero_le _) (by omega)
  rw [List.drop_zero] at this
  exact this
def Def.all (d : Def) : Int := add64 (add64 (add64 (add64 d.body.much (bindsL d.sig.bs.length d.sig.bs)) (bindsL d.sig.ps.length d.sig.ps)) d.sig.res.much) (quo8 d.sig.name)
theorem all26 (d : Def) (h : Heap) (od : d.Ok) : evw E 26 [.agg d.cells] h = some (.ret (.lit (.int .i64 d.all)), h) := by
  refine evw_run primsC 0 rfl rfl rfl ?_
  rw [nf26]
  simp only [aggS, bind_some', Def.len, b15, condT, Def.reBody, Def.c0, Def.c1, Def.c2, Def.reRes, much7 _ _ od.body, binds56 _ od.sig.bl od.sig.bs, binds56 _ od.sig.pl od.sig.ps, much_spec _ _ od.sig.res, onOut_ret, bin_int, addI, lenS, div8]
  rfl
end Go.Sh.T

/- The readings of expressions and definitions. -/
namespace Go.Sh.T
open Go Go.Sh
set_option linter.unusedSimpArgs false
set_option linter.unusedVariables false
set_option maxRecDepth 100000
theorem ty4 : E.ty 4 = some ti4 := by kernel_rfl
theorem ty24 : E.ty 24 = some ti24 := by kernel_rfl
theorem ty26 : E.ty 26 = some ti26 := by kernel_rfl
theorem ty39 : E.ty 39 = some ti39 := by kernel_rfl
theorem ty41 : E.ty 41 = some ti41 := by kernel_rfl
theorem ty43 : E.ty 43 = some ti43 := by kernel_rfl
theorem ty82 : E.ty 82 = some ti82 := by kernel_rfl
theorem bool_of {t : TypeId} {vs : List AV} (h : TypedC E t vs) (e : E.ty t = some ti4) : ∃ b, vs = [.lit (.bool b)] := by
  cases h with
  | bool h hd b => exact ⟨b, rfl⟩
  | int h hd hw => rw [e] at h; cases h; cases hd
  | str h hd hs => rw [e] at h; cases h; cases hd
  | sl h hd hj hl hes => rw [e] at h; cases h; cases hd
  | struct h hd hf => rw [e] at h; cases h; cases hd
theorem types_of {vs : List AV} (h : TypedC E 22 vs) : ∃ l : List Ty, vs = [.sl 5 (l.map Ty.cells)] ∧ l.length ≤ maxLen ∧ ∀ s ∈ l, s.Ok := by
  cases h with
  | bool h hd b => rw [ty22] at h; cases h; cases hd
  | int h hd hw => rw [ty22] at h; cases h; cases hd
  | str h hd hs => rw [ty22] at h; cases h; cases hd
  | struct h hd hf => rw [ty22] at h; cases h; cases hd
  | sl h hd hj hl hes =>
    rw [ty22] at h; cases h; cases hd
    rw [ty34] at hj; cases hj
    obtain ⟨l, rfl, hs⟩ := tys_of hes
    exact ⟨l, rfl, by simpa using hl, hs⟩
theorem exp_fuel : ∀ n : Nat, (∀ vs : List AV, SizeOf.sizeOf vs < n → TypedC E 26 vs → ∃ x : Exp, vs = x.cells ∧ x.Ok) ∧ (∀ es : List (List AV), SizeOf.sizeOf es < n → TypedE E 26 es → ∃ l : List Exp, es = l.map Exp.cells ∧ ∀ x ∈ l, x.Ok)
  | 0 => ⟨fun _ h => by omega, fun _ h => by omega⟩
  | n + 1 => by
    obtain ⟨ihC, ihE⟩ := exp_fuel n
    refine ⟨fun vs hlt h => ?_, fun es hlt h => ?_⟩
    · cases h with
      | bool h hd b => rw [ty26] at h; cases h; cases hd
      | int h hd hw => rw [ty26] at h; cases h; cases hd
      | str h hd hs => rw [ty26] at h; cases h; cases hd
      | sl h hd hj hl hes => rw [ty26] at h; cases h; cases hd
      | struct h hd hf =>
        rw [ty26] at h; cases h; cases hd
        cases hf with
        | cons h1 hf =>
        cases hf with
        | cons h2 hf =>
        cases hf with
        | cons h3 hf =>
        cases hf with
        | cons h4 hf =>
        cases hf with
        | cons h5 hf =>
        cases hf with
        | cons h6 hf =>
        cases hf with
        | cons h7 hf =>
        cases hf
        obtain ⟨k, rfl, hk⟩ := int_of h1 ty3
        obtain ⟨m, rfl, hn⟩ := int_of h2 ty3
        obtain ⟨s, rfl, hs⟩ := str_of h3 ty9
        obtain ⟨b, rfl⟩ := bool_of h4 ty4
        obtain ⟨ts, rfl, htl, hts⟩ := types_of h5
        obtain ⟨ls, rfl, hl, hls⟩ := labels_of h6
        cases h7 with
        | bool h hd b => rw [ty24] at h; cases h; cases hd
        | int h hd hw => rw [ty24] at h; cases h; cases hd
        | str h hd hs => rw [ty24] at h; cases h; cases hd
        | struct h hd hf => rw [ty24] at h; cases h; cases hd
        | sl h hd' hj hl9 hes =>
          rw [ty24] at h; cases h; cases hd'
          rw [ty26] at hj; cases hj
          obtain ⟨xs, rfl, hx⟩ := ihE _ (by
            simp only [strC, List.flatten_cons, List.flatten_nil, List.cons_append, List.nil_append, List.cons.sizeOf_spec, AV.sl.sizeOf_spec] at hlt
            omega) hes
          exact ⟨⟨k, m, s, b, ts, ls, xs⟩, by rw [Exp.cells_eq]; rfl, .mk hk hn hs htl hts hl hls (by simpa using hl9) hx⟩
    · cases h with
      | nil => exact ⟨[], rfl, fun _ h => by cases h⟩
      | cons h hr =>
        simp only [List.cons.sizeOf_spec] at hlt
        obtain ⟨x, rfl, hx⟩ := ihC _ (by omega) h
        obtain ⟨l, rfl, hl⟩ := ihE _ (by omega) hr
        exact ⟨x :: l, rfl, fun y hy => by
          rcases List.mem_cons.1 hy with e | e
          · rw [e]; exact hx
          · exact hl y e⟩
theorem exp_of {vs : List AV} (h : TypedC E 26 vs) : ∃ x : Exp, vs = x.cells ∧ x.Ok := (exp_fuel _).1 vs (Nat.lt_succ_self _) h
theorem bind_of {vs : List AV} (h : TypedC E 82 vs) : ∃ x : Bind, vs = x.cells ∧ x.Ok := by
  cases h with
  | bool h hd b => rw [ty82] at h; cases h; cases hd
  | int h hd hw => rw [ty82] at h; cases h; cases hd
  | str h hd hs => rw [ty82] at h; cases h; cases hd
  | sl h hd hj hl hes => rw [ty82] at h; cases h; cases hd
  | struct h hd hf =>
    rw [ty82] at h; cases h; cases hd
    cases hf with
    | cons h1 hf =>
    cases hf with
    | cons h2 hf =>
    cases hf
    obtain ⟨s, rfl, hs⟩ := str_of h1 ty9
    obtain ⟨t, rfl, ht⟩ := ty_of h2
    refine ⟨⟨s, t⟩, ?_, hs, ht⟩
    show [_] ++ (t.cells ++ []) = _
    rw [List.append_nil]; rfl
theorem binds_ofE : ∀ {es : List (List AV)}, TypedE E 82 es → ∃ l : List Bind, es = l.map Bind.cells ∧ ∀ s ∈ l, s.Ok
  | [], _ => ⟨[], rfl, fun _ h => by cases h⟩
  | _ :: _, .cons h hr => by
    obtain ⟨s, rfl, hs⟩ := bind_of h
    obtain ⟨l, rfl, hl⟩ := binds_ofE hr
    exact ⟨s :: l, rfl, fun x hx => by
      rcases List.mem_cons.1 hx with e | e
      · rw [e]; exact hs
      · exact hl x e⟩
theorem binds_of {vs : List AV} (h : TypedC E 39 vs) : ∃ l : List Bind, vs = [.sl 6 (l.map Bind.cells)] ∧ l.length ≤ maxLen ∧ ∀ s ∈ l, s.Ok := by
  cases h with
  | bool h hd b => rw [ty39] at h; cases h; cases hd
  | int h hd hw => rw [ty39] at h; cases h; cases hd
  | str h hd hs => rw [ty39] at h; cases h; cases hd
  | struct h hd hf => rw [ty39] at h; cases h; cases hd
  | sl h hd hj hl hes =>
    rw [ty39] at h; cases h; cases hd
    rw [ty82] at hj; cases hj
    obtain ⟨l, rfl, hs⟩ := binds_ofE hes
    exact ⟨l, rfl, by simpa using hl, hs⟩
theorem sig_of {vs : List AV} (h : TypedC E 41 vs) : ∃ x : Sig, vs = x.cells ∧ x.Ok := by
  cases h with
  | bool h hd b => rw [ty41] at h; cases h; cases hd
  | int h hd hw => rw [ty41] at h; cases h; cases hd
  | str h hd hs => rw [ty41] at h; cases h; cases hd
  | sl h hd hj hl hes => rw [ty41] at h; cases h; cases hd
  | struct h hd hf =>
    rw [ty41] at h; cases h; cases hd
    cases hf with
    | cons h1 hf =>
    cases hf with
    | cons h2 hf =>
    cases hf with
    | cons h3 hf =>
    cases hf with
    | cons h4 hf =>
    cases hf
    obtain ⟨s, rfl, hs⟩ := str_of h1 ty9
    obtain ⟨bs, rfl, hbl, hb⟩ := binds_of h2
    obtain ⟨ps, rfl, hpl, hp⟩ := binds_of h3
    obtain ⟨t, rfl, ht⟩ := ty_of h4
    refine ⟨⟨s, bs, ps, t⟩, ?_, hs, hbl, hb, hpl, hp, ht⟩
    show [_] ++ ([_] ++ ([_] ++ (t.cells ++ []))) = _
    rw [List.append_nil]; rfl
theorem def_of {vs : List AV} (h : TypedC E 43 vs) : ∃ x : Def, vs = x.cells ∧ x.Ok := by
  cases h with
  | bool h hd b => rw [ty43] at h; cases h; cases hd
  | int h hd hw => rw [ty43] at h; cases h; cases hd
  | str h hd hs => rw [ty43] at h; cases h; cases hd
  | sl h hd hj hl hes => rw [ty43] at h; cases h; cases hd
  | struct h hd hf =>
    rw [ty43] at h; cases h; cases hd
    cases hf with
    | cons h1 hf =>
    cases hf with
    | cons h2 hf =>
    cases hf
    obtain ⟨s, rfl, hs⟩ := sig_of h1
    obtain ⟨t, rfl, ht⟩ := exp_of h2
    refine ⟨⟨s, t⟩, ?_, hs, ht⟩
    show s.cells ++ (t.cells ++ []) = _
    rw [List.append_nil]; rfl
theorem evk {f : Nat} {args : List AV} {h : Heap} {r : Out × Heap} (k : Nat) (e : ev E k f args h = some r) : evw E f args h = some r := (evw_iff primsC).2 ⟨k, e⟩
theorem awake9 : evw E 9 [] [] = some (.ret (.lit (.bool true)), []) := evk 60 (by kernel_rfl)
theorem expSame_row (a : Exp) (oa : a.Ok) (b : Exp) (ob : b.Ok) (c : Def) (oc : c.Ok) (d : Def) (od : d.Ok) (_ : List Nat) : evw E 6 [.agg a.cells, .agg b.cells, .agg c.cells, .agg d.cells] [] = some (.ret (.lit (.bool true)), []) := by
  refine evw_run primsC 0 rfl rfl rfl ?_
  rw [nf6]
  simp only [aggS, bind_some', Exp.cells_len, Def.len, b7, b15, condT, Exp.re, Def.re, Def.reSig, much7 _ _ oa, much7 _ _ ob, all26 _ _ oc, all26 _ _ od, onOut_ret, bin_int, gtrI, boolB, awake9, same31 _ _ _ oa, same20 _ _ _ oa, same32 _ _ _ oc.sig, same33 _ _ _ oc.sig, same34 _ _ _ oc, same35 _ _ _ oc, same34 _ _ _ od, eqB, eqd_self]
  cases decide (a.much > 1000) <;> cases decide (b.much > 1000) <;> cases decide (c.all > 1000) <;> cases decide (d.all > 1000) <;> rfl
end Go.Sh.T

/- What a row leans on. -/
namespace Go.Sh.T
open Go Go.Sh Go.Proofs
set_option linter.unusedSimpArgs false
set_option linter.unusedVariables false
def flatTs : List Nat := [3, 4, 9, 22, 23, 24, 26, 34, 39, 41, 43, 82]
theorem flatTs_ok : flatAll E flatTs = true := by kernel_rfl

mutual
theorem dsz_le {H : Type} : ∀ d : DataW H, dsz d ≤ Ythpnngodkjjmoaa.Rows.uptoBulk d
  | .lit l => by cases l <;> simp [dsz, Ythpnngodkjjmoaa.Rows.uptoBulk]
  | .nil => by simp [dsz, Ythpnngodkjjmoaa.Rows.uptoBulk]
  | .ptr d => by simp [dsz, Ythpnngodkjjmoaa.Rows.uptoBulk]
  | .slice e s => by have := dszL_le e; simp only [dsz, Ythpnngodkjjmoaa.Rows.uptoBulk]; omega
  | .agg p => by have := dszL_le p; simp only [dsz, Ythpnngodkjjmoaa.Rows.uptoBulk]; omega
  | .iface _ d => by simp [dsz, Ythpnngodkjjmoaa.Rows.uptoBulk]
  | .map _ => by simp [dsz, Ythpnngodkjjmoaa.Rows.uptoBulk]
  | .held _ => by simp [dsz, Ythpnngodkjjmoaa.Rows.uptoBulk]
theorem dszL_le {H : Type} : ∀ l : List (DataW H), dszL l ≤ Ythpnngodkjjmoaa.Rows.uptoBulkAll l
  | [] => by simp [dszL, Ythpnngodkjjmoaa.Rows.uptoBulkAll]
  | d :: r => by have := dsz_le d; have := dszL_le r; simp only [dszL, Ythpnngodkjjmoaa.Rows.uptoBulkAll]; omega
end
end Go.Sh.T
