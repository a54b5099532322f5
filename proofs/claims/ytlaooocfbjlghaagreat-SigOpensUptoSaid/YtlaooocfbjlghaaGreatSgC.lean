/- SgC: part of the proof: a shadow of the machine that is proved sound, and what the functions of this seat compute. Conditions: none. -/
import Derived.Test.YtlaooocfbjlghaaGreatSgA
import Derived.Test.YtlaooocfbjlghaaGreatSgB
import Derived.Test.YtlaooocfbjlghaaGreatSgU
set_option linter.unusedSimpArgs false
/- Expressions as plain data; an expression read back. -/
namespace Go.Sh.T
open Go Go.Sh
set_option linter.unusedSimpArgs false
set_option linter.unusedVariables false
set_option maxRecDepth 100000

structure Exp where
  k : Int
  n : Int
  name : ByteArray
  has : Bool
  types : List Ty
  labels : List ByteArray
  kids : List Exp
mutual
def Exp.cells : Exp → List AV
  | ⟨k, n, s, b, ts, ls, xs⟩ => [.lit (.int .i64 k), .lit (.int .i64 n), .lit (.string s), .lit (.bool b), .sl 5 (ts.map Ty.cells), .sl 1 (ls.map strC), .sl 7 (Exp.cellsL xs)]
def Exp.cellsL : List Exp → List (List AV)
  | [] => []
  | t :: r => t.cells :: Exp.cellsL r
end
theorem Exp.cellsL_map : ∀ l : List Exp, Exp.cellsL l = l.map Exp.cells
  | [] => rfl
  | t :: r => by rw [Exp.cellsL, Exp.cellsL_map r]; rfl
theorem Exp.cells_eq (t : Exp) : t.cells = [.lit (.int .i64 t.k), .lit (.int .i64 t.n), .lit (.string t.name), .lit (.bool t.has), .sl 5 (t.types.map Ty.cells), .sl 1 (t.labels.map strC), .sl 7 (t.kids.map Exp.cells)] := by
  cases t; rw [Exp.cells, Exp.cellsL_map]
@[simp] theorem Exp.cells_len (t : Exp) : t.cells.length = 7 := by rw [Exp.cells_eq]; rfl
@[simp] theorem Exp.c0 (t : Exp) : t.cells.getD 0 .dead = .lit (.int .i64 t.k) := by rw [Exp.cells_eq]; rfl
@[simp] theorem Exp.c1 (t : Exp) : t.cells.getD 1 .dead = .lit (.int .i64 t.n) := by rw [Exp.cells_eq]; rfl
@[simp] theorem Exp.c2 (t : Exp) : t.cells.getD 2 .dead = .lit (.string t.name) := by rw [Exp.cells_eq]; rfl
@[simp] theorem Exp.c3 (t : Exp) : t.cells.getD 3 .dead = .lit (.bool t.has) := by rw [Exp.cells_eq]; rfl
@[simp] theorem Exp.c4 (t : Exp) : t.cells.getD 4 .dead = .sl 5 (t.types.map Ty.cells) := by rw [Exp.cells_eq]; rfl
@[simp] theorem Exp.c5 (t : Exp) : t.cells.getD 5 .dead = .sl 1 (t.labels.map strC) := by rw [Exp.cells_eq]; rfl
@[simp] theorem Exp.c6 (t : Exp) : t.cells.getD 6 .dead = .sl 7 (t.kids.map Exp.cells) := by rw [Exp.cells_eq]; rfl
theorem Exp.re (t : Exp) : [t.cells.getD 0 .dead, t.cells.getD 1 .dead, t.cells.getD 2 .dead, t.cells.getD 3 .dead, t.cells.getD 4 .dead, t.cells.getD 5 .dead, t.cells.getD 6 .dead] = t.cells := by
  rw [Exp.cells_eq]; rfl
theorem Exp.refold (t : Exp) : [AV.lit (.int .i64 t.k), .lit (.int .i64 t.n), .lit (.string t.name), .lit (.bool t.has), .sl 5 (t.types.map Ty.cells), .sl 1 (t.labels.map strC), .sl 7 (t.kids.map Exp.cells)] = t.cells := (Exp.cells_eq t).symm

/- reading an expression back -/
mutual
def decXA : AV → Option (List Exp)
  | .sl 7 es => decXE es
  | _ => none
def decX : List AV → Option Exp
  | [] => none
  | a :: r => match a, r with
    | .lit (.int .i64 k), [.lit (.int .i64 n), .lit (.string s), .lit (.bool b), ts, .sl 1 ls, ks] => (decA ts).bind fun t => (decSs ls).bind fun l => (decXA ks).bind fun xs => some ⟨k, n, s, b, t, l, xs⟩
    | _, _ => none
def decXE : List (List AV) → Option (List Exp)
  | [] => some []
  | c :: r => (decX c).bind fun t => (decXE r).bind fun l => some (t :: l)
end
mutual
theorem decXA_ok : ∀ {a : AV} {l : List Exp}, decXA a = some l → a = .sl 7 (l.map Exp.cells)
  | .sl n es, l, h => by
    unfold decXA at h
    split at h
    · rename_i h1 h2; cases h2; rw [decXE_ok h]
    · cases h
  | .lit _, l, h => by unfold decXA at h; cases h
  | .agg _, l, h => by unfold decXA at h; cases h
  | .tup _, l, h => by unfold decXA at h; cases h
  | .hp _ _, l, h => by unfold decXA at h; cases h
  | .ro _, l, h => by unfold decXA at h; cases h
  | .fn _ _ _, l, h => by unfold decXA at h; cases h
  | .ifc _ _, l, h => by unfold decXA at h; cases h
  | .dead, l, h => by unfold decXA at h; cases h
theorem decX_ok : ∀ {c : List AV} {t : Exp}, decX c = some t → c = t.cells
  | [], t, h => by unfold decX at h; cases h
  | a :: r, t, h => by
    unfold decX at h
    split at h
    · rename_i k n s b ts ls ks
      rw [Option.bind_eq_some_iff] at h; obtain ⟨q, hq, h⟩ := h
      rw [Option.bind_eq_some_iff] at h; obtain ⟨l, hl, h⟩ := h
      rw [Option.bind_eq_some_iff] at h; obtain ⟨xs, hx, h⟩ := h
      have h := Option.some.inj h; subst h
      rw [Exp.cells_eq, decA_ok hq, decSs_ok hl, decXA_ok hx]
    · cases h
theorem decXE_ok : ∀ {es : List (List AV)} {l : List Exp}, decXE es = some l → es = l.map Exp.cells
  | [], l, h => by unfold decXE at h; cases h; rfl
  | c :: r, l, h => by
    unfold decXE at h
    rw [Option.bind_eq_some_iff] at h; obtain ⟨t, ht, h⟩ := h
    rw [Option.bind_eq_some_iff] at h; obtain ⟨m, hm, h⟩ := h
    have h := Option.some.inj h; subst h
    rw [decX_ok ht, decXE_ok hm]; rfl
end
mutual
theorem decX_cells : ∀ t : Exp, decX t.cells = some t
  | ⟨k, n, s, b, ts, ls, xs⟩ => by
    rw [Exp.cells, decX, decA, ← Ty.cellsL_map, decE_cells, decSs_map, decXA, decXE_cells xs]; rfl
theorem decXE_cells : ∀ l : List Exp, decXE (Exp.cellsL l) = some l
  | [] => by rw [Exp.cellsL, decXE]
  | t :: r => by
    rw [Exp.cellsL, decXE, decX_cells t, decXE_cells r]; rfl
end
mutual
def Exp.small : Exp → Bool
  | ⟨_, _, _, _, _, _, xs⟩ => Nat.ble xs.length 9223372036854775807 && Exp.smallL xs
def Exp.smallL : List Exp → Bool
  | [] => true
  | t :: r => t.small && Exp.smallL r
end
theorem Exp.smallL_get : ∀ {l : List Exp} {i : Nat} (hi : i < l.length), Exp.smallL l = true → l[i].small = true
  | t :: r, 0, hi, h => by rw [Exp.smallL, Bool.and_eq_true] at h; exact h.1
  | t :: r, i + 1, hi, h => by rw [Exp.smallL, Bool.and_eq_true] at h; exact Exp.smallL_get (l := r) (by simpa using hi) h.2
theorem Exp.size_kid {t : Exp} {i : Nat} (hi : i < t.kids.length) : SizeOf.sizeOf t.kids[i] < SizeOf.sizeOf t := by
  have := List.sizeOf_lt_of_mem (List.getElem_mem hi)
  cases t; simp only [Exp.mk.sizeOf_spec] at *; omega

/- no reference into the heap -/
theorem ltE_str (n : Nat) : ∀ l : List ByteArray, ltE n (l.map strC) = true
  | [] => rfl
  | s :: r => by rw [List.map_cons, ltE, ltE_str n r]; rfl
mutual
theorem Ty.ltL (n : Nat) : ∀ t : Ty, ltL n t.cells = true
  | ⟨k, m, s, ls, xs⟩ => by
    have h1 := Ty.ltE n xs
    have h2 := ltE_str n ls
    rw [Ty.cells]
    simp only [Sh.ltL, ltA, h1, h2, Bool.and_self]
theorem Ty.ltE (n : Nat) : ∀ l : List Ty, ltE n (Ty.cellsL l) = true
  | [] => rfl
  | t :: r => by rw [Ty.cellsL, Sh.ltE, Ty.ltL n t, Ty.ltE n r]; rfl
end
mutual
theorem Exp.ltL (n : Nat) : ∀ t : Exp, ltL n t.cells = true
  | ⟨k, m, s, b, ts, ls, xs⟩ => by
    have h1 := Exp.ltE n xs
    have h2 := ltE_str n ls
    have h3 := Ty.ltE n ts
    rw [Ty.cellsL_map] at h3
    rw [Exp.cells]
    simp only [Sh.ltL, ltA, h1, h2, h3, Bool.and_self]
theorem Exp.ltE (n : Nat) : ∀ l : List Exp, ltE n (Exp.cellsL l) = true
  | [] => rfl
  | t :: r => by rw [Exp.cellsL, Sh.ltE, Exp.ltL n t, Exp.ltE n r]; rfl
end
end Go.Sh.T

/- Expressions, bindings and definitions as plain data. -/
namespace Go.Sh.T
open Go Go.Sh
set_option linter.unusedSimpArgs false
set_option linter.unusedVariables false
set_option maxRecDepth 100000

inductive Exp.Ok : Exp → Prop
  | mk {t : Exp} (hk : (Lit.int .i64 t.k).wf = true) (hn : (Lit.int .i64 t.n).wf = true) (hs : t.name.size ≤ maxLen) (htl : t.types.length ≤ maxLen) (hts : ∀ a ∈ t.types, a.Ok) (hl : t.labels.length ≤ maxLen) (hls : ∀ s ∈ t.labels, s.size ≤ maxLen) (ha : t.kids.length ≤ maxLen) (has : ∀ a ∈ t.kids, a.Ok) : t.Ok
theorem Exp.Ok.len {t : Exp} (h : t.Ok) : t.kids.length ≤ maxLen := by cases h with | mk _ _ _ _ _ _ _ ha _ => exact ha
theorem Exp.Ok.kid {t : Exp} (h : t.Ok) {a : Exp} (ha : a ∈ t.kids) : a.Ok := by cases h with | mk _ _ _ _ _ _ _ _ has => exact has a ha
theorem Exp.Ok.tlen {t : Exp} (h : t.Ok) : t.types.length ≤ maxLen := by cases h with | mk _ _ _ ha _ _ _ _ _ => exact ha
theorem Exp.Ok.ty {t : Exp} (h : t.Ok) {a : Ty} (ha : a ∈ t.types) : a.Ok := by cases h with | mk _ _ _ _ has _ _ _ _ => exact has a ha
theorem Exp.Ok.lab {t : Exp} (h : t.Ok) : t.labels.length ≤ maxLen := by cases h with | mk _ _ _ _ _ ha _ _ _ => exact ha
theorem Exp.Ok.str {t : Exp} (h : t.Ok) : t.name.size ≤ maxLen := by cases h with | mk _ _ hs _ _ _ _ _ _ => exact hs
theorem Exp.eqd_eq (a b : Exp) : eqd a b = (eqd a.k b.k && (eqd a.n b.n && (eqd a.name b.name && (eqd a.has b.has && (eqd a.types b.types && (eqd a.labels b.labels && eqd a.kids b.kids)))))) := by
  rw [Bool.eq_iff_iff]
  simp only [Bool.and_eq_true, eqd_iff]
  cases a; cases b
  simp only [Exp.mk.injEq]
/- bindings -/
structure Bind where
  name : ByteArray
  ty : Ty
def Bind.cells (b : Bind) : List AV := .lit (.string b.name) :: b.ty.cells
structure Bind.Ok (b : Bind) : Prop where
  name : b.name.size ≤ maxLen
  ty : b.ty.Ok
@[simp] theorem Bind.len (b : Bind) : b.cells.length = 6 := by simp [Bind.cells]
theorem Bind.n0 (b : Bind) : b.cells.getD 0 .dead = .lit (.string b.name) := (Eq.refl _).trans rfl
theorem Bind.re1 (b : Bind) : [b.cells.getD 1 .dead, b.cells.getD 2 .dead, b.cells.getD 3 .dead, b.cells.getD 4 .dead, b.cells.getD 5 .dead] = b.ty.cells := Ty.refold b.ty
theorem Bind.re (b : Bind) : [b.cells.getD 0 .dead, b.cells.getD 1 .dead, b.cells.getD 2 .dead, b.cells.getD 3 .dead, b.cells.getD 4 .dead, b.cells.getD 5 .dead] = b.cells := by
  show b.cells.getD 0 .dead :: [b.cells.getD 1 .dead, b.cells.getD 2 .dead, b.cells.getD 3 .dead, b.cells.getD 4 .dead, b.cells.getD 5 .dead] = _
  rw [Bind.re1, Bind.n0]; rfl
theorem Bind.p0 (b : Bind) : partA false 1 0 (b.cells.drop 0) = some (.lit (.string b.name)) := (Eq.refl _).trans rfl
theorem Bind.p1 (b : Bind) : partA true 5 0 (b.cells.drop 1) = some (.agg b.ty.cells) := partA_full (Ty.cells_len _)
theorem Bind.eqd_eq (a b : Bind) : eqd a b = (eqd a.name b.name && eqd a.ty b.ty) := by
  rw [Bool.eq_iff_iff]
  simp only [Bool.and_eq_true, eqd_iff]
  cases a; cases b
  simp only [Bind.mk.injEq]

/- what a definition promises; definitions -/
structure Sig where
  name : ByteArray
  bs : List Bind
  ps : List Bind
  res : Ty
def Sig.cells (s : Sig) : List AV := .lit (.string s.name) :: .sl 6 (s.bs.map Bind.cells) :: .sl 6 (s.ps.map Bind.cells) :: s.res.cells
structure Sig.Ok (s : Sig) : Prop where
  name : s.name.size ≤ maxLen
  bl : s.bs.length ≤ maxLen
  bs : ∀ b ∈ s.bs, b.Ok
  pl : s.ps.length ≤ maxLen
  ps : ∀ b ∈ s.ps, b.Ok
  res : s.res.Ok
@[simp] theorem Sig.len (s : Sig) : s.cells.length = 8 := by simp [Sig.cells]
theorem Sig.c0 (s : Sig) : s.cells.getD 0 .dead = .lit (.string s.name) := (Eq.refl _).trans rfl
theorem Sig.c1 (s : Sig) : s.cells.getD 1 .dead = .sl 6 (s.bs.map Bind.cells) := (Eq.refl _).trans rfl
theorem Sig.c2 (s : Sig) : s.cells.getD 2 .dead = .sl 6 (s.ps.map Bind.cells) := (Eq.refl _).trans rfl
theorem Sig.re3 (s : Sig) : [s.cells.getD 3 .dead, s.cells.getD 4 .dead, s.cells.getD 5 .dead, s.cells.getD 6 .dead, s.cells.getD 7 .dead] = s.res.cells := Ty.refold s.res
theorem Sig.re (s : Sig) : [s.cells.getD 0 .dead, s.cells.getD 1 .dead, s.cells.getD 2 .dead, s.cells.getD 3 .dead, s.cells.getD 4 .dead, s.cells.getD 5 .dead, s.cells.getD 6 .dead, s.cells.getD 7 .dead] = s.cells := by
  show s.cells.getD 0 .dead :: s.cells.getD 1 .dead :: s.cells.getD 2 .dead :: [s.cells.getD 3 .dead, s.cells.getD 4 .dead, s.cells.getD 5 .dead, s.cells.getD 6 .dead, s.cells.getD 7 .dead] = _
  rw [Sig.re3]; rfl
theorem Sig.eqd_eq (a b : Sig) : eqd a b = (eqd a.name b.name && (eqd a.bs b.bs && (eqd a.ps b.ps && eqd a.res b.res))) := by
  rw [Bool.eq_iff_iff]
  simp only [Bool.and_eq_true, eqd_iff]
  cases a; cases b
  simp only [Sig.mk.injEq]
structure Def where
  sig : Sig
  body : Exp
def Def.cells (d : Def) : List AV := d.sig.cells ++ d.body.cells
structure Def.Ok (d : Def) : Prop where
  sig : d.sig.Ok
  body : d.body.Ok
@[simp] theorem Def.len (d : Def) : d.cells.length = 15 := by simp [Def.cells]
theorem Def.get_sig (d : Def) (i : Nat) (h : i < 8) : d.cells.getD i .dead = d.sig.cells.getD i .dead := by
  rw [Def.cells, List.getD_eq_getElem?_getD, List.getElem?_append_left (by rw [Sig.len]; exact h), ← List.getD_eq_getElem?_getD]
theorem Def.get_body (d : Def) (i : Nat) : d.cells.getD (8 + i) .dead = d.body.cells.getD i .dead := by
  rw [Def.cells, List.getD_eq_getElem?_getD, List.getElem?_append_right (by rw [Sig.len]; omega), Sig.len, Nat.add_sub_cancel_left, ← List.getD_eq_getElem?_getD]
theorem Def.c0 (d : Def) : d.cells.getD 0 .dead = .lit (.string d.sig.name) := by rw [d.get_sig 0 (by decide), Sig.c0]
theorem Def.c1 (d : Def) : d.cells.getD 1 .dead = .sl 6 (d.sig.bs.map Bind.cells) := by rw [d.get_sig 1 (by decide), Sig.c1]
theorem Def.c2 (d : Def) : d.cells.getD 2 .dead = .sl 6 (d.sig.ps.map Bind.cells) := by rw [d.get_sig 2 (by decide), Sig.c2]
theorem Def.reSig (d : Def) : [d.cells.getD 0 .dead, d.cells.getD 1 .dead, d.cells.getD 2 .dead, d.cells.getD 3 .dead, d.cells.getD 4 .dead, d.cells.getD 5 .dead, d.cells.getD 6 .dead, d.cells.getD 7 .dead] = d.sig.cells := by
  rw [d.get_sig 0 (by decide), d.get_sig 1 (by decide), d.get_sig 2 (by decide), d.get_sig 3 (by decide), d.get_sig 4 (by decide), d.get_sig 5 (by decide), d.get_sig 6 (by decide), d.get_sig 7 (by decide), Sig.re]
theorem Def.reRes (d : Def) : [d.cells.getD 3 .dead, d.cells.getD 4 .dead, d.cells.getD 5 .dead, d.cells.getD 6 .dead, d.cells.getD 7 .dead] = d.sig.res.cells := by
  rw [d.get_sig 3 (by decide), d.get_sig 4 (by decide), d.get_sig 5 (by decide), d.get_sig 6 (by decide), d.get_sig 7 (by decide), Sig.re3]
theorem Def.reBody (d : Def) : [d.cells.getD 8 .dead, d.cells.getD 9 .dead, d.cells.getD 10 .dead, d.cells.getD 11 .dead, d.cells.getD 12 .dead, d.cells.getD 13 .dead, d.cells.getD 14 .dead] = d.body.cells := by
  have h0 := d.get_body 0; have h1 := d.get_body 1; have h2 := d.get_body 2; have h3 := d.get_body 3; have h4 := d.get_body 4; have h5 := d.get_body 5; have h6 := d.get_body 6
  simp only [Nat.add_zero, Nat.reduceAdd] at h0 h1 h2 h3 h4 h5 h6
  rw [h0, h1, h2, h3, h4, h5, h6, Exp.re]
theorem Def.re (d : Def) : [d.cells.getD 0 .dead, d.cells.getD 1 .dead, d.cells.getD 2 .dead, d.cells.getD 3 .dead, d.cells.getD 4 .dead, d.cells.getD 5 .dead, d.cells.getD 6 .dead, d.cells.getD 7 .dead, d.cells.getD 8 .dead, d.cells.getD 9 .dead, d.cells.getD 10 .dead, d.cells.getD 11 .dead, d.cells.getD 12 .dead, d.cells.getD 13 .dead, d.cells.getD 14 .dead] = d.cells := by
  have h1 := d.reSig; have h2 := d.reBody
  have : ∀ a b c d e f g h i j k l m n o : AV, [a, b, c, d, e, f, g, h, i, j, k, l, m, n, o] = [a, b, c, d, e, f, g, h] ++ [i, j, k, l, m, n, o] := fun _ _ _ _ _ _ _ _ _ _ _ _ _ _ _ => rfl
  rw [this, h1, h2]; rfl
theorem Def.eqd_eq (a b : Def) : eqd a b = (eqd a.sig b.sig && eqd a.body b.body) := by
  rw [Bool.eq_iff_iff]
  simp only [Bool.and_eq_true, eqd_iff]
  cases a; cases b
  simp only [Def.mk.injEq]
end Go.Sh.T

/- Sameness of expressions and definitions; how much they have. -/
namespace Go.Sh.T
open Go Go.Sh
set_option linter.unusedSimpArgs false
set_option linter.unusedVariables false
set_option maxRecDepth 100000
theorem lenA50 (es : List (List AV)) : lenA E 50 (.sl 7 es) = some (es.length : Int) := (Eq.refl _).trans (by kernel_rfl)
theorem lenA22 (es : List (List AV)) : lenA E 22 (.sl 6 es) = some (es.length : Int) := (Eq.refl _).trans (by kernel_rfl)
theorem b7 : Nat.beq 7 7 = true := rfl
theorem b6 : Nat.beq 6 6 = true := rfl
theorem b8 : Nat.beq 8 8 = true := rfl
theorem b15 : Nat.beq 15 15 = true := rfl
theorem b5 : Nat.beq 5 5 = true := rfl
/- bindings, signatures, definitions -/
/- how much -/
def muchTs (n : Int) : List Ty → Int
  | [] => n
  | t :: r => bif decide (n < 3000) then muchTs (add64 n t.much) r else n
mutual
def Exp.much : Exp → Int
  | ⟨_, _, s, _, ts, ls, xs⟩ => Exp.muchL (muchTs (labs (add64 (add64 1 (quo8 s)) ls.length) (ls.take 1000)) ts) xs
def Exp.muchL (n : Int) : List Exp → Int
  | [] => n
  | t :: r => bif decide (n < 3000) then Exp.muchL (add64 n t.much) r else n
end
theorem Exp.much_eq (t : Exp) : t.much = Exp.muchL (muchTs (labs (add64 (add64 1 (quo8 t.name)) t.labels.length) (t.labels.take 1000)) t.types) t.kids := by cases t; rw [Exp.much]
theorem much7 : ∀ (t : Exp) (h : Heap), t.Ok → evw E 51 [.agg t.cells] h = some (.ret (.lit (.int .i64 t.much)), h)
  | t, h, ok => by
    have hlen : t.kids.length ≤ 9223372036854775807 := ok.len
    have htl : t.types.length ≤ 9223372036854775807 := ok.tlen
    have hlab : t.labels.length ≤ 9223372036854775807 := ok.lab
    obtain ⟨N, hN⟩ : ∃ N, N = t.kids.length + t.types.length + t.labels.length + 1 := ⟨_, rfl⟩
    have loop2 : ∀ (x0 x1 x2 x3 x4 x5 : AV) (m i : Nat) (acc : Int), i ≤ t.kids.length → t.kids.length < m + i → Lp51_2 (evw E) N h m h x0 x1 x2 x3 x4 x5 (.sl 7 (t.kids.map Exp.cells)) (.lit (.int .i64 acc)) (.lit (.int .i64 (i : Int))) = some (.ret (.lit (.int .i64 (Exp.muchL acc (t.kids.drop i)))), h) := by
      intro x0 x1 x2 x3 x4 x5 m
      induction m with
      | zero => intro i acc h1 h2; omega
      | succ m ih =>
        intro i acc h1 h2
        rw [Lp51_2_succ]
        simp only [lenA50, bind_some', bin_int, lssI, boolB, List.length_map]
        by_cases hi : i < t.kids.length
        · have hrec := much7 (t.kids[i]) h (ok.kid (List.getElem_mem hi))
          rw [ltT hi, condT, List.drop_eq_getElem_cons hi, Exp.muchL]
          cases decide (acc < 3000) with
          | false => rfl
          | true =>
            rw [condT, condT]
            simp only [indexA_map _ _ _ _ hi, bind_some', partA_full (Exp.cells_len _), hrec, onOut_ret, bin_int, addI]
            rw [incI (by omega)]
            exact ih (i + 1) _ hi (by omega)
        · rw [ltF hi, condF, List.drop_of_length_le (by omega), Exp.muchL]
    have loop1 : ∀ (x0 x1 x2 x3 x5 : AV) (m i : Nat) (acc : Int), i ≤ t.types.length → t.types.length < m + i → Lp51_1 (evw E) N h m h x0 x1 x2 x3 (.sl 5 (t.types.map Ty.cells)) x5 (.sl 7 (t.kids.map Exp.cells)) (.lit (.int .i64 acc)) (.lit (.int .i64 (i : Int))) = some (.ret (.lit (.int .i64 (Exp.muchL (muchTs acc (t.types.drop i)) t.kids))), h) := by
      intro x0 x1 x2 x3 x5 m
      have fin := fun acc => loop2 x0 x1 x2 x3 (.sl 5 (t.types.map Ty.cells)) x5 N 0 acc (Nat.zero_le _) (by omega)
      induction m with
      | zero => intro i acc h1 h2; omega
      | succ m ih =>
        intro i acc h1 h2
        rw [Lp51_1_succ]
        simp only [lenA24, bind_some', bin_int, lssI, boolB, List.length_map]
        have fin' := fin acc
        rw [List.drop_zero, show ((0 : Nat) : Int) = 0 from rfl] at fin'
        by_cases hi : i < t.types.length
        · rw [ltT hi, condT, List.drop_eq_getElem_cons hi, muchTs]
          cases decide (acc < 3000) with
          | false => rw [condF, condF]; exact fin'
          | true =>
            rw [condT, condT]
            simp only [indexA_map _ _ _ _ hi, bind_some', partA_full (Ty.cells_len _), much_spec _ h (ok.ty (List.getElem_mem hi)), onOut_ret, bin_int, addI]
            rw [incI (by omega)]
            exact ih (i + 1) _ hi (by omega)
        · rw [ltF hi, condF, List.drop_of_length_le (by omega), muchTs]; exact fin'
    have loop0 : ∀ (x0 x1 x2 x3 : AV) (m i : Nat) (acc : Int), i ≤ t.labels.length → t.labels.length < m + i → Lp51_0 (evw E) N h m h x0 x1 x2 x3 (.sl 5 (t.types.map Ty.cells)) (.sl 1 (t.labels.map strC)) (.sl 7 (t.kids.map Exp.cells)) (.lit (.int .i64 acc)) (.lit (.int .i64 (i : Int))) = some (.ret (.lit (.int .i64 (Exp.muchL (muchTs (labs acc ((t.labels.drop i).take (1000 - i))) t.types) t.kids))), h) := by
      intro x0 x1 x2 x3 m
      have fin := fun acc => loop1 x0 x1 x2 x3 (.sl 1 (t.labels.map strC)) N 0 acc (Nat.zero_le _) (by omega)
      induction m with
      | zero => intro i acc h1 h2; omega
      | succ m ih =>
        intro i acc h1 h2
        rw [Lp51_0_succ]
        simp only [lenA23, bind_some', bin_int, lssI, boolB, List.length_map]
        have fin' := fin acc
        rw [List.drop_zero, show ((0 : Nat) : Int) = 0 from rfl] at fin'
        by_cases hi : i < t.labels.length
        · rw [ltT hi, condT]
          by_cases hk : i < 1000
          · rw [show decide ((i : Int) < 1000) = true from by simp; omega, condT]
            simp only [indexA_map _ _ _ _ hi, bind_some', part_str, lenS, bin_int, div8, addI]
            rw [incI (by omega), List.drop_eq_getElem_cons hi, show 1000 - i = (1000 - (i + 1)) + 1 from by omega, List.take_succ_cons, labs]
            exact ih (i + 1) _ hi (by omega)
          · rw [show decide ((i : Int) < 1000) = false from by simp; omega, condF, show 1000 - i = 0 from by omega, List.take_zero, labs]
            exact fin'
        · rw [ltF hi, condF, List.drop_of_length_le (by omega), List.take_nil, labs]
          exact fin'
    refine evw_run primsC N rfl rfl rfl ?_
    rw [nf51]
    simp only [aggS, bind_some', Exp.cells_len, Exp.c0, Exp.c1, Exp.c2, Exp.c3, Exp.c4, Exp.c5, Exp.c6, lenS, bin_int, div8, addI, lenA23, List.length_map, b7]
    rw [condT, Exp.much_eq]
    have := loop0 (.lit (.int .i64 t.k)) (.lit (.int .i64 t.n)) (.lit (.string t.name)) (.lit (.bool t.has)) N 0 (add64 (add64 1 (quo8 t.name)) t.labels.length) (Nat.zero_le _) (by omega)
    rw [List.drop_zero, show ((0 : Nat) : Int) = 0 from rfl] at this
    exact this
  termination_by t => SizeOf.sizeOf t
  decreasing_by exact Exp.size_kid hi
def bindsL (n : Int) : List Bind → Int
  | [] => n
  | b :: r => bif decide (n < 3000) then bindsL (add64 (add64 n b.ty.much) (quo8 b.name)) r else n
theorem binds56 (l : List Bind) (hl : l.length ≤ maxLen) (ol : ∀ a ∈ l, a.Ok) (h : Heap) : evw E 52 [.sl 6 (l.map Bind.cells)] h = some (.ret (.lit (.int .i64 (bindsL l.length l))), h) := by
  have hl : l.length ≤ 9223372036854775807 := hl
  have loop : ∀ (m i : Nat) (acc : Int), i ≤ l.length → l.length < m + i → Lp52_0 (evw E) (l.length + 1) h m h (.sl 6 (l.map Bind.cells)) (.lit (.int .i64 acc)) (.lit (.int .i64 (i : Int))) = some (.ret (.lit (.int .i64 (bindsL acc (l.drop i)))), h) := by
    intro m
    induction m with
    | zero => intro i acc h1 h2; omega
    | succ m ih =>
      intro i acc h1 h2
      rw [Lp52_0_succ]
      simp only [lenA22, bind_some', bin_int, lssI, boolB, List.length_map]
      by_cases hi : i < l.length
      · rw [ltT hi, condT, List.drop_eq_getElem_cons hi, bindsL]
        cases decide (acc < 3000) with
        | false => rfl
        | true =>
          rw [condT, condT]
          simp only [indexA_map _ _ _ _ hi, bind_some', Bind.len, show Nat.ble 1 6 = true from rfl, show Nat.ble 0 6 = true from rfl, condT, Bind.p1, Bind.p0, much_spec _ h (ol _ (List.getElem_mem hi)).ty, onOut_ret, bin_int, addI, lenS, div8]
          rw [incI (by omega)]
          exact ih (i + 1) _ hi (by omega)
      · rw [ltF hi, condF, List.drop_of_length_le (by omega), bindsL]
  refine evw_run primsC (l.length + 1) rfl rfl rfl ?_
  rw [nf52]
  simp only [lenA22, bind_some', List.length_map]
  have := loop (l.length + 1) 0 l.length (Nat.zero_le _) (by omega)
  rw [List.drop_zero] at this
  exact this
def Def.all (d : Def) : Int := add64 (add64 (add64 (add64 d.body.much (bindsL d.sig.bs.length d.sig.bs)) (bindsL d.sig.ps.length d.sig.ps)) d.sig.res.much) (quo8 d.sig.name)
theorem all26 (d : Def) (h : Heap) (od : d.Ok) : evw E 23 [.agg d.cells] h = some (.ret (.lit (.int .i64 d.all)), h) := by
  refine evw_run primsC 0 rfl rfl rfl ?_
  rw [nf23]
  simp only [aggS, bind_some', Def.len, b15, condT, Def.reBody, Def.c0, Def.c1, Def.c2, Def.reRes, much7 _ _ od.body, binds56 _ od.sig.bl od.sig.bs, binds56 _ od.sig.pl od.sig.ps, much_spec _ _ od.sig.res, onOut_ret, bin_int, addI, lenS, div8]
  rfl
end Go.Sh.T

/- The readings of expressions and definitions. -/
namespace Go.Sh.T
open Go Go.Sh
set_option linter.unusedSimpArgs false
set_option linter.unusedVariables false
set_option maxRecDepth 100000
theorem ty22 : E.ty 22 = some ti22 := by kernel_rfl
theorem ty28 : E.ty 28 = some ti28 := by kernel_rfl
theorem ty45 : E.ty 45 = some ti45 := by kernel_rfl
theorem bind_of {vs : List AV} (h : TypedC E 45 vs) : ∃ x : Bind, vs = x.cells ∧ x.Ok := by
  cases h with
  | bool h hd b => rw [ty45] at h; cases h; cases hd
  | int h hd hw => rw [ty45] at h; cases h; cases hd
  | str h hd hs => rw [ty45] at h; cases h; cases hd
  | sl h hd hj hl hes => rw [ty45] at h; cases h; cases hd
  | struct h hd hf =>
    rw [ty45] at h; cases h; cases hd
    cases hf with
    | cons h1 hf =>
    cases hf with
    | cons h2 hf =>
    cases hf
    obtain ⟨s, rfl, hs⟩ := str_of h1 ty9
    obtain ⟨t, rfl, ht⟩ := ty_of h2
    refine ⟨⟨s, t⟩, ?_, hs, ht⟩
    show [_] ++ (t.cells ++ []) = _
    rw [List.append_nil]; rfl
theorem binds_ofE : ∀ {es : List (List AV)}, TypedE E 45 es → ∃ l : List Bind, es = l.map Bind.cells ∧ ∀ s ∈ l, s.Ok
  | [], _ => ⟨[], rfl, fun _ h => by cases h⟩
  | _ :: _, .cons h hr => by
    obtain ⟨s, rfl, hs⟩ := bind_of h
    obtain ⟨l, rfl, hl⟩ := binds_ofE hr
    exact ⟨s :: l, rfl, fun x hx => by
      rcases List.mem_cons.1 hx with e | e
      · rw [e]; exact hs
      · exact hl x e⟩
theorem binds_of {vs : List AV} (h : TypedC E 22 vs) : ∃ l : List Bind, vs = [.sl 6 (l.map Bind.cells)] ∧ l.length ≤ maxLen ∧ ∀ s ∈ l, s.Ok := by
  cases h with
  | bool h hd b => rw [ty22] at h; cases h; cases hd
  | int h hd hw => rw [ty22] at h; cases h; cases hd
  | str h hd hs => rw [ty22] at h; cases h; cases hd
  | struct h hd hf => rw [ty22] at h; cases h; cases hd
  | sl h hd hj hl hes =>
    rw [ty22] at h; cases h; cases hd
    rw [ty45] at hj; cases hj
    obtain ⟨l, rfl, hs⟩ := binds_ofE hes
    exact ⟨l, rfl, by simpa using hl, hs⟩
theorem sig_of {vs : List AV} (h : TypedC E 28 vs) : ∃ x : Sig, vs = x.cells ∧ x.Ok := by
  cases h with
  | bool h hd b => rw [ty28] at h; cases h; cases hd
  | int h hd hw => rw [ty28] at h; cases h; cases hd
  | str h hd hs => rw [ty28] at h; cases h; cases hd
  | sl h hd hj hl hes => rw [ty28] at h; cases h; cases hd
  | struct h hd hf =>
    rw [ty28] at h; cases h; cases hd
    cases hf with
    | cons h1 hf =>
    cases hf with
    | cons h2 hf =>
    cases hf with
    | cons h3 hf =>
    cases hf with
    | cons h4 hf =>
    cases hf
    obtain ⟨s, rfl, hs⟩ := str_of h1 ty9
    obtain ⟨bs, rfl, hbl, hb⟩ := binds_of h2
    obtain ⟨ps, rfl, hpl, hp⟩ := binds_of h3
    obtain ⟨t, rfl, ht⟩ := ty_of h4
    refine ⟨⟨s, bs, ps, t⟩, ?_, hs, hbl, hb, hpl, hp, ht⟩
    show [_] ++ ([_] ++ ([_] ++ (t.cells ++ []))) = _
    rw [List.append_nil]; rfl
theorem evk {f : Nat} {args : List AV} {h : Heap} {r : Out × Heap} (k : Nat) (e : ev E k f args h = some r) : evw E f args h = some r := (evw_iff primsC).2 ⟨k, e⟩
end Go.Sh.T

/- exp.Right: may an expression be? -/
namespace Go.Sh.T
open Go Go.Sh
set_option linter.unusedSimpArgs false
set_option linter.unusedVariables false
set_option maxRecDepth 100000
def wordB (k : Int) (s : ByteArray) : Bool := bif k == 4 || k == 5 || k == 7 || k == 10 || k == 13 then kindR s == 1 else bif k == 3 then decide ((s.size : Int) ≤ 40) else emptyS s
def numB (k n : Int) : Bool := bif k == 1 then decide (n ≥ 0) else bif k == 2 then n == 0 || n == 1 else bif k == 11 then decide (n ≥ 1) && decide (n ≤ 7) else n == 0
def typB (k : Int) (b : Bool) (m : Int) : Bool := bif k == 5 || k == 7 then decide (m ≤ 1) else bif k == 12 then m == 1 else bif k == 13 then (!b && m == 0) || (b && (decide (m ≥ 1) && decide (m ≤ 3))) else m == 0
def bearB (k : Int) (ls : List ByteArray) (m : Int) : Bool := bif k == 1 || k == 2 || k == 3 || k == 4 then m == 0 else bif k == 7 || k == 10 || k == 12 then m == 1 else bif k == 5 || k == 8 || k == 11 then m == 2 else bif k == 6 then m == 3 else
  bif k == 9 then m == (ls.length : Int) && (decide (m ≤ 6) && risingR ls none) else bif k == 13 then decide (m ≤ 4) else false
theorem k13 (k : Int) : k = 1 ∨ k = 2 ∨ k = 3 ∨ k = 4 ∨ k = 5 ∨ k = 6 ∨ k = 7 ∨ k = 8 ∨ k = 9 ∨ k = 10 ∨ k = 11 ∨ k = 12 ∨ k = 13 ∨ ((k == 1) = false ∧ (k == 2) = false ∧ (k == 3) = false ∧ (k == 4) = false ∧ (k == 5) = false ∧ (k == 6) = false ∧ (k == 7) = false ∧ (k == 8) = false ∧ (k == 9) = false ∧ (k == 10) = false ∧ (k == 11) = false ∧ (k == 12) = false ∧ (k == 13) = false) := by
  simp only [beq_eq_false_iff_ne, ne_eq]
  omega
theorem binE9 (x y : ByteArray) : binAV E .eql 9 (.lit (.string x)) (.lit (.string y)) = some (.lit (.bool (x.toList == y.toList))) := (Eq.refl _).trans rfl
theorem worded37 (e : Exp) (h : Heap) : evw E 90 [.agg e.cells] h = some (.ret (.lit (.bool (wordB e.k e.name))), h) := by
  obtain ⟨k, n, s, b, ts, ls, xs⟩ := e
  refine evw_run primsC 0 rfl rfl rfl ?_
  rw [nf90, aggS, bind_some', Exp.cells_len, b7, condT, Exp.c0, Exp.c2]
  simp only [bin_int, eqlI, bind_some', boolB, pfine_spec, onOut_ret, lenS, leqI, binE9]
  unfold wordB emptyS
  rcases k13 k with e | e | e | e | e | e | e | e | e | e | e | e | e | ⟨e1, e2, e3, e4, e5, e6, e7, e8, e9, e10, e11, e12, e13⟩
  all_goals first | (subst e; rfl) | (simp only [e1, e2, e3, e4, e5, e6, e7, e8, e9, e10, e11, e12, e13]; rfl)
theorem numbered38 (e : Exp) (h : Heap) : evw E 91 [.agg e.cells] h = some (.ret (.lit (.bool (numB e.k e.n))), h) := by
  obtain ⟨k, n, s, b, ts, ls, xs⟩ := e
  refine evw_run primsC 0 rfl rfl rfl ?_
  rw [nf91, aggS, bind_some', Exp.cells_len, b7, condT, Exp.c0, Exp.c1]
  simp only [bin_int, eqlI, bind_some', boolB, onOut_ret, leqI, geqI]
  unfold numB
  rcases k13 k with e | e | e | e | e | e | e | e | e | e | e | e | e | ⟨e1, e2, e3, e4, e5, e6, e7, e8, e9, e10, e11, e12, e13⟩
  all_goals first | (subst e; first | rfl | (cases n == 0 <;> cases decide (n ≥ 1) <;> rfl)) | (simp only [e1, e2, e3, e4, e5, e6, e7, e8, e9, e10, e11, e12, e13]; rfl)
theorem typed39 (e : Exp) (h : Heap) : evw E 92 [.agg e.cells] h = some (.ret (.lit (.bool (typB e.k e.has e.types.length))), h) := by
  obtain ⟨k, n, s, b, ts, ls, xs⟩ := e
  refine evw_run primsC 0 rfl rfl rfl ?_
  rw [nf92, aggS, bind_some', Exp.cells_len, b7, condT, Exp.c0, Exp.c3, Exp.c4]
  simp only [bin_int, eqlI, bind_some', boolB, onOut_ret, leqI, geqI, lenA24, List.length_map, notB]
  unfold typB
  generalize hm : (ts.length : Int) = m
  rcases k13 k with e | e | e | e | e | e | e | e | e | e | e | e | e | ⟨e1, e2, e3, e4, e5, e6, e7, e8, e9, e10, e11, e12, e13⟩
  all_goals first | (subst e; first | rfl | (cases b <;> cases m == 0 <;> cases decide (m ≥ 1) <;> rfl)) | (simp only [e1, e2, e3, e4, e5, e6, e7, e8, e9, e10, e11, e12, e13]; rfl)
theorem gate_succ {ρ : Type} (n : Nat) (x : Option ρ) : gateK (n + 1) x = x := (Eq.refl _).trans rfl
theorem bearing40 (e : Exp) (h : Heap) (ok : e.Ok) : evw E 93 [.agg e.cells] h = some (.ret (.lit (.bool (bearB e.k e.labels e.kids.length))), h) := by
  obtain ⟨k, n, s, b, ts, ls, xs⟩ := e
  have hr := prising_spec ls ok.lab h
  refine evw_run primsC 1 rfl rfl rfl ?_
  rw [nf93, aggS, bind_some', Exp.cells_len, b7, condT, Exp.c0, Exp.c5, Exp.c6]
  unfold bearB
  rcases k13 k with e | e | e | e | e | e | e | e | e | e | e | e | e | ⟨e1, e2, e3, e4, e5, e6, e7, e8, e9, e10, e11, e12, e13⟩
  all_goals first
    | (subst e; simp only [bin_int, eqlI, bind_some', boolB, onOut_ret, leqI, geqI, lenA24, lenA23, lenA50, List.length_map, notB, Int.reduceBEq, condT, condF, Sq93_0_eq, gate_succ, hr, Bool.true_or, Bool.or_true, Bool.false_or, Bool.or_false, cond_true, cond_false])
    | (simp only [bin_int, eqlI, bind_some', boolB, onOut_ret, leqI, geqI, lenA24, lenA23, lenA50, List.length_map, notB, e1, e2, e3, e4, e5, e6, e7, e8, e9, e10, e11, e12, e13, condT, condF, Sq93_0_eq, gate_succ, Bool.true_or, Bool.or_true, Bool.false_or, Bool.or_false, cond_true, cond_false])
  cases (xs.length : Int) == (ls.length : Int) <;> cases decide ((xs.length : Int) ≤ 6) <;> rfl

def fineB (t : Ty) : Bool := t.right && !t.has 9
theorem fine42 (t : Ty) (h : Heap) (ok : t.Ok) : evw E 66 [.agg t.cells] h = some (.ret (.lit (.bool (fineB t))), h) := by
  refine evw_run primsC 0 rfl rfl rfl ?_
  have hh : evw E 42 [.agg t.cells, .lit (.int .i64 9)] h = some (.ret (.lit (.bool (t.has 9))), h) := evw_prim primsC (p := p42) (by kernel_rfl) (p42_run _ t ok 9 h)
  rw [nf66, aggS, bind_some', Ty.cells_len, b5, condT, Ty.refold, pright_spec _ _ ok, onOut_ret, boolB, bind_some', hh, onOut_ret, notB, bind_some']
  unfold fineB
  cases t.right <;> rfl
theorem hpart_top (h : Heap) (a : AV) : hpart false 1 0 h.length (h ++ [[.v a]]) = some a := by rw [hpart_app0]; rfl
theorem lt_bool (n : Nat) (b : Bool) : Out.lt n (.ret (.lit (.bool b))) := AV.lt.lit _
theorem all41 (l : List Ty) (hl : l.length ≤ maxLen) (ol : ∀ a ∈ l, a.Ok) (h : Heap) : evw E 64 [.sl 5 (l.map Ty.cells), .fn 66 [] []] h = some (.ret (.lit (.bool (l.all fineB))), h) := by
  refine evw_run primsC 0 rfl rfl rfl ?_
  have ha := any_spec (fun a => !fineB a) (.fn 89 [] [.hp h.length 0]) (h ++ [[.v (.fn 66 [] [])]]) l hl fun a ha => by
    rw [applyS]
    show evw E 89 [.agg a.cells, .hp h.length 0] _ = _
    refine evw_run primsC 0 rfl rfl rfl ?_
    rw [nf89, aggS, bind_some', Ty.cells_len, b5, condT, hpart_top, bind_some', Ty.refold, apply_fn, fine42 _ _ (ol a ha), onOut_ret, notB, bind_some']
  rw [nf64, show AV.one (.fn 66 [] []) = true from rfl, condT, ha, onOut_ret, notB, bind_some', trunc_app (H := E.hint 64) (by kernel_rfl) (lt_bool _ _)]
  rw [List.all_eq_not_any_not]

theorem anyE_spec (P : Exp → Bool) (fv : AV) (H : Heap) (l : List Exp) (hl : l.length ≤ maxLen) (hc : ∀ a ∈ l, applyV (evw E) fv [.agg a.cells] H = some (.ret (.lit (.bool (P a))), H)) : evw E 112 [.sl 7 (l.map Exp.cells), fv] H = some (.ret (.lit (.bool (l.any P))), H) := by
  have hl : l.length ≤ 9223372036854775807 := hl
  have loop : ∀ (m i : Nat), i ≤ l.length → l.length < m + i → ∃ r : Int, Lp125_0 (evw E) (l.length + 1) H m H (.sl 7 (l.map Exp.cells)) fv (.lit (.int .i64 (l.length : Int))) (.lit (.int .i64 (i : Int))) = some (.ret (.lit (.int .i64 r)), H) ∧ decide (r ≥ 0) = (l.drop i).any P := by
    intro m
    induction m with
    | zero => intro i h1 h2; omega
    | succ m ih =>
      intro i h1 h2
      rw [Lp125_0_succ, bin_int, lssI, bind_some', boolB, bind_some']
      by_cases hi : i < l.length
      · rw [ltT hi, condT, indexA_map _ _ _ _ hi, bind_some', partA_full (Exp.cells_len _), bind_some', hc _ (List.getElem_mem hi), onOut_ret, boolB, bind_some', List.drop_eq_getElem_cons hi, List.any_cons]
        cases e : P l[i] with
        | true => exact ⟨i, by rw [condT], by rw [Bool.true_or]; simp⟩
        | false =>
          rw [condF, bin_int, addI, bind_some', incI (by omega), Bool.false_or]
          exact ih (i + 1) hi (by omega)
      · exact ⟨-1, by rw [ltF hi, condF], by rw [List.drop_of_length_le (by omega)]; rfl⟩
  obtain ⟨r, h1, h2⟩ := loop (l.length + 1) 0 (Nat.zero_le _) (by omega)
  rw [List.drop_zero] at h2
  have h166 : evw E 125 [.sl 7 (l.map Exp.cells), fv] H = some (.ret (.lit (.int .i64 r)), H) := by
    refine evw_run primsC (l.length + 1) rfl rfl rfl ?_
    rw [nf125, lenA50, bind_some', List.length_map]
    exact h1
  refine evw_run primsC 0 rfl rfl rfl ?_
  rw [nf112, h166, onOut_ret, bin_int, geqI, bind_some', h2]
theorem all43 (P : Exp → Bool) (f : Nat) (l : List Exp) (hl : l.length ≤ maxLen) (h : Heap) (hc : ∀ a ∈ l, ∀ H, evw E f [.agg a.cells] H = some (.ret (.lit (.bool (P a))), H)) : evw E 94 [.sl 7 (l.map Exp.cells), .fn f [] []] h = some (.ret (.lit (.bool (l.all P))), h) := by
  refine evw_run primsC 0 rfl rfl rfl ?_
  have ha := anyE_spec (fun a => !P a) (.fn 113 [] [.hp h.length 0]) (h ++ [[.v (.fn f [] [])]]) l hl fun a ha => by
    rw [applyS]
    show evw E 113 [.agg a.cells, .hp h.length 0] _ = _
    refine evw_run primsC 0 rfl rfl rfl ?_
    rw [nf113, aggS, bind_some', Exp.cells_len, b7, condT, hpart_top, bind_some', Exp.re, apply_fn, hc a ha, onOut_ret, notB, bind_some']
  rw [nf94, show AV.one (.fn f [] []) = true from rfl, condT, ha, onOut_ret, notB, bind_some', trunc_app (H := E.hint 94) (by kernel_rfl) (lt_bool _ _)]
  rw [List.all_eq_not_any_not]

/-- What an expression's own fields must be. -/
def ownB (e : Exp) : Bool := !(e.k != 9 && decide ((e.labels.length : Int) > 0)) && (!(e.k != 13 && e.has) && (wordB e.k e.name && (numB e.k e.n && (typB e.k e.has e.types.length && (bearB e.k e.labels e.kids.length && e.types.all fineB)))))
mutual
def Exp.right : Exp → Bool
  | ⟨k, n, s, b, ts, ls, xs⟩ => ownB ⟨k, n, s, b, ts, ls, xs⟩ && Exp.rightL xs
def Exp.rightL : List Exp → Bool
  | [] => true
  | t :: r => t.right && Exp.rightL r
end
theorem Exp.rightL_all : ∀ l : List Exp, Exp.rightL l = l.all Exp.right
  | [] => rfl
  | t :: r => by rw [Exp.rightL, Exp.rightL_all r]; rfl
theorem Exp.right_eq (e : Exp) : e.right = (ownB e && e.kids.all Exp.right) := by cases e; rw [Exp.right, Exp.rightL_all]
theorem right8 : ∀ (e : Exp) (h : Heap), e.Ok → evw E 67 [.agg e.cells] h = some (.ret (.lit (.bool e.right)), h)
  | e, h, ok => by
    have hk := all43 Exp.right 67 e.kids ok.len h fun a ha H => by
      obtain ⟨i, hi, rfl⟩ := List.mem_iff_getElem.1 ha
      exact right8 e.kids[i] H (ok.kid ha)
    refine evw_run primsC 0 rfl rfl rfl ?_
    rw [nf67, aggS, bind_some', Exp.cells_len, b7, condT]
    simp only [Exp.re]
    simp only [bind_some', condT, Exp.c0, Exp.c3, Exp.c4, Exp.c5, Exp.c6, bin_int, neqI, boolB, lenA23, List.length_map, gtrI, worded37, numbered38, typed39, bearing40 _ _ ok, all41 _ ok.tlen (fun a ha => ok.ty ha), hk, onOut_ret]
    rw [Exp.right_eq]
    unfold ownB
    cases e.k != 9 <;> cases decide ((e.labels.length : Int) > 0) <;> cases e.k != 13 <;> cases e.has <;> cases wordB e.k e.name <;> cases numB e.k e.n <;> first | rfl | (cases typB e.k false e.types.length <;> cases bearB e.k e.labels e.kids.length <;> cases e.types.all fineB <;> rfl) | (cases typB e.k true e.types.length <;> cases bearB e.k e.labels e.kids.length <;> cases e.types.all fineB <;> rfl)
  termination_by e => SizeOf.sizeOf e
  decreasing_by exact Exp.size_kid hi
end Go.Sh.T

/- The expressions within an expression: Count, At, Nodes. -/
namespace Go.Sh.T
open Go Go.Sh
set_option linter.unusedSimpArgs false
set_option linter.unusedVariables false
set_option maxRecDepth 100000

mutual
def Exp.pre : Exp → List Exp
  | ⟨k, n, s, b, ts, ls, xs⟩ => ⟨k, n, s, b, ts, ls, xs⟩ :: Exp.preL xs
def Exp.preL : List Exp → List Exp
  | [] => []
  | c :: r => c.pre ++ Exp.preL r
end
theorem Exp.pre_eq (c : Exp) : c.pre = c :: Exp.preL c.kids := by cases c; rw [Exp.pre]
theorem Exp.preL_cons (c : Exp) (r : List Exp) : Exp.preL (c :: r) = c.pre ++ Exp.preL r := by rw [Exp.preL]
theorem Exp.preL_nil : Exp.preL [] = [] := by rw [Exp.preL]

theorem preC_cells (c : Exp) (hl : c.kids.length ≤ 9223372036854775807) (h : HE.preE (c.kids.map Exp.cells) = some ((Exp.preL c.kids).map fun x => .agg x.cells)) : HE.preC c.cells = some (c.pre.map fun x => .agg x.cells) := by
  rw [Exp.pre_eq, List.map_cons, Exp.cells_eq, HE.preC, HE.preA, show Nat.ble (c.kids.map Exp.cells).length 9223372036854775807 = true from by rw [List.length_map, Nat.ble_eq]; exact hl, condT, h]; rfl
mutual
theorem Exp.preC_ok : ∀ c : Exp, c.Ok → HE.preC c.cells = some (c.pre.map fun x => .agg x.cells)
  | ⟨k, n, s, b, ts, ls, xs⟩, ok => by
    refine preC_cells _ ok.len ?_
    show HE.preE (xs.map Exp.cells) = _
    rw [← Exp.cellsL_map]
    exact Exp.preE_ok xs fun x hx => ok.kid hx
theorem Exp.preE_ok : ∀ l : List Exp, (∀ x ∈ l, x.Ok) → HE.preE (Exp.cellsL l) = some ((Exp.preL l).map fun x => .agg x.cells)
  | [], _ => by rw [Exp.cellsL, HE.preE, Exp.preL]; rfl
  | c :: r, h => by
    rw [Exp.cellsL, HE.preE, Exp.preC_ok c (h c List.mem_cons_self), bind_some', Exp.preE_ok r fun x hx => h x (List.mem_cons_of_mem _ hx), bind_some', Exp.preL, List.map_append]
end

/- how many nodes -/
def tysN : List Ty → Nat
  | [] => 0
  | t :: r => t.pre.length + tysN r
def expsN : List Exp → Nat
  | [] => 0
  | x :: r => 1 + tysN x.types + expsN r
theorem expsN_append : ∀ l m : List Exp, expsN (l ++ m) = expsN l + expsN m
  | [], m => by rw [List.nil_append, expsN, Nat.zero_add]
  | x :: l, m => by rw [List.cons_append, expsN, expsN, expsN_append l m]; omega
mutual
theorem Ty.pre_vol : ∀ c : Ty, c.pre.length ≤ volC c.cells
  | ⟨k, n, s, ls, xs⟩ => by
    have := Ty.preL_vol xs
    rw [Ty.pre, Ty.cells, List.length_cons]; simp only [volC, Sh.vol]; omega
theorem Ty.preL_vol : ∀ l : List Ty, (Ty.preL l).length ≤ volE (Ty.cellsL l)
  | [] => by rw [Ty.preL]; exact Nat.zero_le _
  | c :: r => by
    have h1 := Ty.pre_vol c
    have h2 := Ty.preL_vol r
    rw [Ty.preL, Ty.cellsL, List.length_append, volE]; omega
end
theorem tysN_vol : ∀ l : List Ty, tysN l ≤ volE (l.map Ty.cells)
  | [] => Nat.zero_le _
  | t :: r => by
    have h1 := Ty.pre_vol t
    have h2 := tysN_vol r
    rw [tysN, List.map_cons, volE]; omega
mutual
theorem Exp.pre_vol : ∀ c : Exp, expsN c.pre ≤ volC c.cells
  | ⟨k, n, s, b, ts, ls, xs⟩ => by
    have h1 := Exp.preL_vol xs
    have h2 := tysN_vol ts
    rw [Exp.pre, Exp.cells, expsN]; simp only [volC, Sh.vol]; omega
theorem Exp.preL_vol : ∀ l : List Exp, expsN (Exp.preL l) ≤ volE (Exp.cellsL l)
  | [] => by rw [Exp.preL]; exact Nat.zero_le _
  | c :: r => by
    have h1 := Exp.pre_vol c
    have h2 := Exp.preL_vol r
    rw [Exp.preL, Exp.cellsL, expsN_append, volE]; omega
end
/- parts of an expression -/
mutual
theorem Exp.pre_part : ∀ (e x : Exp), x ∈ e.pre → ∃ a b, e.pre = a ++ (x.pre ++ b)
  | ⟨k, n, s, b, ts, ls, xs⟩, x, h => by
    rw [Exp.pre] at h
    rcases List.mem_cons.1 h with e | e
    · exact ⟨[], [], by rw [e, List.append_nil, List.nil_append]⟩
    · obtain ⟨a, b, e⟩ := Exp.preL_part xs x e
      exact ⟨_ :: a, b, by rw [Exp.pre, e]; rfl⟩
theorem Exp.preL_part : ∀ (l : List Exp) (x : Exp), x ∈ Exp.preL l → ∃ a b, Exp.preL l = a ++ (x.pre ++ b)
  | [], x, h => by rw [Exp.preL] at h; cases h
  | c :: r, x, h => by
    rw [Exp.preL] at h
    rcases List.mem_append.1 h with e | e
    · obtain ⟨a, b, e⟩ := Exp.pre_part c x e
      exact ⟨a, b ++ Exp.preL r, by rw [Exp.preL, e]; simp only [List.append_assoc]⟩
    · obtain ⟨a, b, e⟩ := Exp.preL_part r x e
      exact ⟨c.pre ++ a, b, by rw [Exp.preL, e]; simp only [List.append_assoc]⟩
end
mutual
theorem Exp.pre_all (P : Exp → Prop) (hP : ∀ e : Exp, P e → ∀ k ∈ e.kids, P k) : ∀ e : Exp, P e → ∀ x ∈ e.pre, P x
  | ⟨k, n, s, b, ts, ls, xs⟩, h, x, hx => by
    rw [Exp.pre] at hx
    rcases List.mem_cons.1 hx with e | e
    · rw [e]; exact h
    · exact Exp.preL_all P hP xs (hP _ h) x e
theorem Exp.preL_all (P : Exp → Prop) (hP : ∀ e : Exp, P e → ∀ k ∈ e.kids, P k) : ∀ l : List Exp, (∀ k ∈ l, P k) → ∀ x ∈ Exp.preL l, P x
  | [], _, x, hx => by rw [Exp.preL] at hx; cases hx
  | c :: r, h, x, hx => by
    rw [Exp.preL] at hx
    rcases List.mem_append.1 hx with e | e
    · exact Exp.pre_all P hP c (h c List.mem_cons_self) x e
    · exact Exp.preL_all P hP r (fun k hk => h k (List.mem_cons_of_mem _ hk)) x e
end
theorem Exp.pre_ok {e : Exp} (ok : e.Ok) : ∀ x ∈ e.pre, x.Ok := Exp.pre_all Exp.Ok (fun e h k hk => h.kid hk) e ok
/- Count -/
theorem cntW_eq' : ∀ (l : List AV) (n : Int), 0 ≤ n → n + l.length ≤ 4294967296 → H34.N.cntW l n = n + l.length
  | [], n, _, _ => by rw [H34.N.cntW]; simp
  | x :: l, n, h0, h => by
    rw [List.length_cons] at h
    rw [H34.N.cntW, IntWalk.i64_in _ (by omega), cntW_eq' l (n + 1) (by omega) (by omega), List.length_cons]; omega
/- At -/
def zeroE : Exp := ⟨0, 0, ByteArray.empty, false, [], [], []⟩
theorem zeroE_ok : zeroE.Ok := .mk rfl rfl (Nat.zero_le _) (Nat.zero_le _) (fun _ h => by cases h) (Nat.zero_le _) (fun _ h => by cases h) (Nat.zero_le _) (fun _ h => by cases h)
/-- The expression of a number. -/
def Exp.at (e : Exp) (k : Int) : Option Exp := if 0 < k then e.pre[(k - 1).toNat]? else none
/- Nodes -/
theorem typesOf_cells (x : Exp) : HE.M.typesOf (.agg x.cells) = some x.types := by
  rw [Exp.cells_eq]
  show decA (.sl 5 (x.types.map Ty.cells)) = _
  rw [decA, ← Ty.cellsL_map, decE_cells]
theorem tyN_eq (t : Ty) (h : t.pre.length ≤ 4294967296) : HE.M.tyN t = (t.pre.length : Int) := by
  unfold HE.M.tyN
  rw [cntW_eq' _ _ (by omega) (by rw [List.length_map]; omega), List.length_map, Int.zero_add]
theorem addT_eq : ∀ (l : List Ty) (n : Int), 0 ≤ n → n + tysN l ≤ 4294967296 → HE.M.addT l n = n + tysN l
  | [], n, _, _ => by rw [HE.M.addT, tysN]; simp
  | t :: l, n, h0, h => by
    rw [tysN] at h
    rw [HE.M.addT, tyN_eq t (by omega), IntWalk.i64_in _ (by omega), addT_eq l _ (by omega) (by omega), tysN]; omega
theorem nodW_eq : ∀ (l : List Exp) (n : Int), (∀ x ∈ l, x.Ok) → 0 ≤ n → n + expsN l ≤ 4294967296 → HE.M.nodW (l.map fun x => .agg x.cells) n = some (n + expsN l)
  | [], n, _, _, _ => by rw [List.map_nil, HE.M.nodW, expsN]; simp
  | x :: l, n, ok, h0, h => by
    rw [expsN] at h
    have ox := ok x List.mem_cons_self
    have hs : Ty.smallL x.types = true := Ty.ok_smallL _ fun a ha => ox.ty ha
    have hl : Nat.ble x.types.length 9223372036854775807 = true := by rw [Nat.ble_eq]; exact ox.tlen
    rw [List.map_cons, HE.M.nodW, typesOf_cells, Option.bind_some, hs, hl, Bool.and_self, condT, IntWalk.i64_in _ (by omega), addT_eq _ _ (by omega) (by omega), nodW_eq l _ (fun y hy => ok y (List.mem_cons_of_mem _ hy)) (by omega) (by omega), expsN]
    congr 1
    omega
theorem nodes12 (e : Exp) (ok : e.Ok) (hv : expsN e.pre ≤ 1048576) (h : Heap) : evw E 85 [.agg e.cells] h = some (.ret (.lit (.int .i64 (expsN e.pre : Int))), h) := by
  refine evw_prim primsC (p := p85) (by rfl) ?_
  show (HE.preC e.cells).bind _ = _
  rw [Exp.preC_ok e ok, bind_some', nodW_eq _ _ (Exp.pre_ok ok) (by omega) (by omega), Option.bind_some, Int.zero_add]
mutual
theorem Ty.nodes_pre : ∀ t : Ty, t.pre.length ≤ 4294967296 → t.nodes = (t.pre.length : Int)
  | ⟨k, n, s, ls, xs⟩, h => by
    rw [Ty.pre, List.length_cons] at h
    rw [Ty.nodes, Ty.nodesL_pre xs 1 (by omega) (by omega), Ty.pre, List.length_cons]; omega
theorem Ty.nodesL_pre : ∀ (l : List Ty) (acc : Int), 1 ≤ acc → acc + (Ty.preL l).length ≤ 4294967297 → Ty.nodesL acc l = acc + (Ty.preL l).length
  | [], acc, _, _ => by rw [Ty.nodesL, Ty.preL]; simp
  | t :: r, acc, h0, h => by
    rw [Ty.preL, List.length_append] at h
    rw [Ty.nodesL, Ty.nodes_pre t (by omega), IntWalk.i64_in _ (by omega), Ty.nodesL_pre r _ (by omega) (by omega), Ty.preL, List.length_append]; omega
end
end Go.Sh.T

/- The document's Right is the program's. -/
namespace Go.Sh.T
open Go Go.Sh
set_option linter.unusedSimpArgs false
set_option linter.unusedVariables false
set_option maxRecDepth 100000
def shp (k : Int) (b : Bool) (m : Int) : Int × Int × Int × Int :=
  bif k == 5 then (0, 1, 2, 2) else bif k == 6 then (0, 0, 3, 3) else bif k == 7 then (0, 1, 1, 1) else bif k == 8 || k == 11 then (0, 0, 2, 2) else bif k == 9 then (0, 0, m, m) else bif k == 10 then (0, 0, 1, 1) else bif k == 12 then (1, 1, 1, 1) else bif k == 13 then (bif b then (1, 3, 0, 4) else (0, 0, 0, 4)) else (0, 0, 0, 0)
def r5 (e : Exp) : Bool := decide ((e.types.length : Int) ≥ (shp e.k e.has e.labels.length).1) && (decide ((e.types.length : Int) ≤ (shp e.k e.has e.labels.length).2.1) && (decide ((e.kids.length : Int) ≥ (shp e.k e.has e.labels.length).2.2.1) && (decide ((e.kids.length : Int) ≤ (shp e.k e.has e.labels.length).2.2.2) && e.types.all fineB)))
def r4 (e : Exp) : Bool := !(e.k != 9 && decide ((e.labels.length : Int) > 0)) && (risingR e.labels none && (!decide ((e.labels.length : Int) > 6) && r5 e))
def r3 (e : Exp) : Bool := !((e.k != 1 && e.k != 2 && e.k != 11 && e.n != 0) || (e.k != 13 && e.has)) && r4 e
def r2 (e : Exp) : Bool := !((e.k == 1 && decide (e.n < 0)) || (e.k == 2 && (e.n != 0 && e.n != 1)) || (e.k == 11 && (decide (e.n < 1) || decide (e.n > 7)))) && r3 e
def r1 (e : Exp) (nm : Bool) : Bool := !((nm && !(kindR e.name == 1)) || (!nm && (e.k != 3 && !emptyS e.name)) || (e.k == 3 && decide ((e.name.size : Int) > 40))) && r2 e
def r0 (e : Exp) : Bool := r1 e (e.k == 4 || e.k == 5 || e.k == 7 || e.k == 10 || e.k == 13)
section
variable (e : Exp) (ok : e.Ok) (h : Heap)
abbrev Sx (S : AV → AV → AV → AV → AV → AV → AV → AV → R) (e : Exp) (b : Bool) : R := S (.lit (.int .i64 e.k)) (.lit (.int .i64 e.n)) (.lit (.string e.name)) (.lit (.bool e.has)) (.sl 5 (e.types.map Ty.cells)) (.sl 1 (e.labels.map strC)) (.sl 7 (e.kids.map Exp.cells)) (.lit (.bool b))
include ok in
include ok in
include ok in
include ok in
include ok in
include ok in
include ok in
end
end Go.Sh.T

/- Right, Count, At, Nodes, Depth: the document's and the program's. -/
namespace Go.Sh.T
open Go Go.Sh
set_option linter.unusedSimpArgs false
set_option linter.unusedVariables false
set_option maxRecDepth 100000
/- Count and Nodes by definition -/
end Go.Sh.T
