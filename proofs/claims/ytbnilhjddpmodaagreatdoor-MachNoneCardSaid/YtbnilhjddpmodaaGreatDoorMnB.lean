/- MnB: part of the proof: a shadow of the machine that is proved sound, and what the functions of this seat compute. Conditions: none. -/
import Derived.Test.YtbnilhjddpmodaaGreatDoorMnT
import Derived.Test.YtbnilhjddpmodaaGreatDoorShC
import Derived.Test.YtbnilhjddpmodaaGreatDoorShB
import Derived.Lib.LaidTab
import Derived.Stop.LaidErr
import Derived.Test.YtbnilhjddpmodaaGreatDoorRows
set_option linter.unusedSimpArgs false
namespace Go.Sh.T
set_option linter.unusedSimpArgs false
open Go Go.Sh

theorem lenA35 (es : List (List AV)) : lenA E 35 (.sl 5 es) = some (es.length : Int) := (Eq.refl _).trans (by kernel_rfl)


end Go.Sh.T

namespace Go.Sh.T
open Go Go.Sh

theorem ty3 : E.ty 3 = some ti3 := by kernel_rfl
theorem ty9 : E.ty 9 = some ti9 := by kernel_rfl
theorem ty35 : E.ty 35 = some ti35 := by kernel_rfl
theorem ty36 : E.ty 36 = some ti36 := by kernel_rfl
theorem ty43 : E.ty 43 = some ti43 := by kernel_rfl

theorem int_of {t : TypeId} {vs : List AV} (h : TypedC E t vs) (e : E.ty t = some ti3) : ∃ n, vs = [.lit (.int .i64 n)] ∧ (Lit.int .i64 n).wf = true := by
  cases h with
  | bool h hd b => rw [e] at h; cases h; cases hd
  | int h hd hw => rw [e] at h; cases h; cases hd; exact ⟨_, rfl, hw⟩
  | str h hd hs => rw [e] at h; cases h; cases hd
  | sl h hd hj hl hes => rw [e] at h; cases h; cases hd
  | struct h hd hf => rw [e] at h; cases h; cases hd

theorem str_of {t : TypeId} {vs : List AV} (h : TypedC E t vs) (e : E.ty t = some ti9) : ∃ s, vs = strC s ∧ s.size ≤ maxLen := by
  cases h with
  | bool h hd b => rw [e] at h; cases h; cases hd
  | int h hd hw => rw [e] at h; cases h; cases hd
  | str h hd hs => exact ⟨_, rfl, hs⟩
  | sl h hd hj hl hes => rw [e] at h; cases h; cases hd
  | struct h hd hf => rw [e] at h; cases h; cases hd

theorem strs_of : ∀ {es : List (List AV)}, TypedE E 9 es → ∃ l : List ByteArray, es = l.map strC ∧ ∀ s ∈ l, s.size ≤ maxLen
  | [], _ => ⟨[], rfl, fun _ h => by cases h⟩
  | _ :: _, .cons h hr => by
    obtain ⟨s, rfl, hs⟩ := str_of h ty9
    obtain ⟨l, rfl, hl⟩ := strs_of hr
    exact ⟨s :: l, rfl, fun x hx => by
      rcases List.mem_cons.1 hx with e | e
      · rw [e]; exact hs
      · exact hl x e⟩

theorem labels_of {vs : List AV} (h : TypedC E 36 vs) : ∃ l : List ByteArray, vs = [.sl 1 (l.map strC)] ∧ l.length ≤ maxLen ∧ ∀ s ∈ l, s.size ≤ maxLen := by
  cases h with
  | bool h hd b => rw [ty36] at h; cases h; cases hd
  | int h hd hw => rw [ty36] at h; cases h; cases hd
  | str h hd hs => rw [ty36] at h; cases h; cases hd
  | sl h hd hj hl hes =>
    rw [ty36] at h; cases h; cases hd
    rw [ty9] at hj; cases hj
    obtain ⟨l, rfl, hs⟩ := strs_of hes
    exact ⟨l, rfl, by simpa using hl, hs⟩
  | struct h hd hf => rw [ty36] at h; cases h; cases hd

theorem ty_fuel : ∀ n : Nat, (∀ vs : List AV, SizeOf.sizeOf vs < n → TypedC E 43 vs → ∃ x : Ty, vs = x.cells ∧ x.Ok) ∧ (∀ es : List (List AV), SizeOf.sizeOf es < n → TypedE E 43 es → ∃ l : List Ty, es = l.map Ty.cells ∧ ∀ x ∈ l, x.Ok)
  | 0 => ⟨fun _ h => by omega, fun _ h => by omega⟩
  | n + 1 => by
    obtain ⟨ihC, ihE⟩ := ty_fuel n
    refine ⟨fun vs hlt h => ?_, fun es hlt h => ?_⟩
    · cases h with
      | bool h hd b => rw [ty43] at h; cases h; cases hd
      | int h hd hw => rw [ty43] at h; cases h; cases hd
      | str h hd hs => rw [ty43] at h; cases h; cases hd
      | sl h hd hj hl hes => rw [ty43] at h; cases h; cases hd
      | struct h hd hf =>
        rw [ty43] at h; cases h; cases hd
        cases hf with
        | cons h1 hf =>
          cases hf with
          | cons h2 hf =>
            cases hf with
            | cons h3 hf =>
              cases hf with
              | cons h4 hf =>
                cases hf with
                | cons h5 hf =>
                  cases hf
                  obtain ⟨k, rfl, hk⟩ := int_of h1 ty3
                  obtain ⟨m, rfl, hn⟩ := int_of h2 ty3
                  obtain ⟨s, rfl, hs⟩ := str_of h3 ty9
                  obtain ⟨ls, rfl, hl, hls⟩ := labels_of h4
                  cases h5 with
                  | bool h hd b => rw [ty35] at h; cases h; cases hd
                  | int h hd hw => rw [ty35] at h; cases h; cases hd
                  | str h hd hs => rw [ty35] at h; cases h; cases hd
                  | struct h hd hf => rw [ty35] at h; cases h; cases hd
                  | sl h hd hj hl5 hes =>
                    rw [ty35] at h; cases h; cases hd
                    rw [ty43] at hj; cases hj
                    obtain ⟨xs, rfl, hx⟩ := ihE _ (by
                      simp only [strC, List.flatten_cons, List.flatten_nil, List.cons_append, List.nil_append, List.cons.sizeOf_spec, AV.sl.sizeOf_spec] at hlt
                      omega) hes
                    exact ⟨⟨k, m, s, ls, xs⟩, by rw [Ty.cells_eq]; rfl, .mk hk hn hs hl hls (by simpa using hl5) hx⟩
    · cases h with
      | nil => exact ⟨[], rfl, fun _ h => by cases h⟩
      | cons h hr =>
        simp only [List.cons.sizeOf_spec] at hlt
        obtain ⟨x, rfl, hx⟩ := ihC _ (by omega) h
        obtain ⟨l, rfl, hl⟩ := ihE _ (by omega) hr
        exact ⟨x :: l, rfl, fun y hy => by
          rcases List.mem_cons.1 hy with e | e
          · rw [e]; exact hx
          · exact hl y e⟩

theorem ty_of {vs : List AV} (h : TypedC E 43 vs) : ∃ x : Ty, vs = x.cells ∧ x.Ok := (ty_fuel _).1 vs (Nat.lt_succ_self _) h
theorem tys_of {es : List (List AV)} (h : TypedE E 43 es) : ∃ l : List Ty, es = l.map Ty.cells ∧ ∀ x ∈ l, x.Ok := (ty_fuel _).2 es (Nat.lt_succ_self _) h
end Go.Sh.T

namespace Go.Sh.T
open Go Go.Sh
set_option linter.unusedSimpArgs false

mutual
def Ty.ahead (n : Int) : Ty → Bool
  | ⟨k, m, _, _, xs⟩ => !(k == 9 && decide (m ≥ n)) && Ty.aheadL n xs
def Ty.aheadL (n : Int) : List Ty → Bool
  | [] => true
  | t :: r => t.ahead n && Ty.aheadL n r
end
end Go.Sh.T

namespace Go.Sh.T
open Go Go.Sh
set_option linter.unusedSimpArgs false

def strEq (x y : ByteArray) : Bool := x.toList == y.toList
def sameS : List ByteArray → List ByteArray → Bool
  | [], _ => true
  | _, [] => true
  | x :: l, y :: m => strEq x y && sameS l m

theorem lenA36 (es : List (List AV)) : lenA E 36 (.sl 1 es) = some (es.length : Int) := (Eq.refl _).trans (by kernel_rfl)
theorem bin_str (T : TypeId) (op : BinOp) (x y : ByteArray) : binAV E op T (.lit (.string x)) (.lit (.string y)) = strBin op x y := (Eq.refl _).trans rfl
theorem part_str (s : ByteArray) : partA false 1 0 (strC s) = some (.lit (.string s)) := (Eq.refl _).trans rfl

end Go.Sh.T

namespace Go.Sh.T
open Go Go.Sh
set_option linter.unusedSimpArgs false

mutual
def Ty.same : Ty → Ty → Bool
  | ⟨k, n, s, ls, xs⟩, u => !(k != u.k) && !(n != u.n) && strEq s u.name && (decide (ls.length = u.labels.length) && sameS ls u.labels) && decide (xs.length = u.args.length) && Ty.sameL xs u.args
def Ty.sameL : List Ty → List Ty → Bool
  | [], _ => true
  | t :: r, m => match m with
    | [] => true
    | u :: m => Ty.same t u && Ty.sameL r m
end
theorem Ty.Ok.lab {t : Ty} (h : t.Ok) : t.labels.length ≤ maxLen := by cases h with | mk _ _ _ hl _ _ _ => exact hl

end Go.Sh.T

namespace Go.Sh.T
open Go Go.Sh
set_option linter.unusedSimpArgs false
set_option linter.unusedVariables false

theorem lenS (s : ByteArray) : lenA E 9 (.lit (.string s)) = some (s.size : Int) := (Eq.refl _).trans (by kernel_rfl)
/- low, up, digit -/
/- kept -/
def keys3 : List ByteArray := [⟨#[108, 101, 116]⟩, ⟨#[105, 110]⟩, ⟨#[105, 102]⟩, ⟨#[116, 104, 101, 110]⟩, ⟨#[101, 108, 115, 101]⟩, ⟨#[102, 110]⟩, ⟨#[99, 97, 108, 108]⟩, ⟨#[100, 101, 102]⟩, ⟨#[116, 114, 117, 101]⟩, ⟨#[102, 97, 108, 115, 101]⟩]
def keys4 : List ByteArray := [⟨#[73, 110, 116]⟩, ⟨#[66, 111, 111, 108]⟩, ⟨#[83, 116, 114, 105, 110, 103]⟩, ⟨#[84, 111, 112]⟩]
def keptR (s : ByteArray) : Int := bif keys3.any (fun k => strEq k s) then 3 else bif keys4.any (fun k => strEq k s) then 4 else 0

/- kind -/
def badR (kind c : Int) : Bool := !digB c && !lowB c && (!upB c || kind == 1)
def kindL (kind : Int) : List UInt8 → Int
  | [] => kind
  | c :: r => bif badR kind c.toNat then 0 else kindL kind r
def kind0 (c : Int) : Int := bif upB c then 2 else bif lowB c then 1 else 0
def kindR (s : ByteArray) : Int := bif keptR s != 0 then keptR s else match bytes s with
  | [] => 0
  | c :: r => bif decide (r.length ≥ 8) then 0 else kindL (kind0 c.toNat) r

end Go.Sh.T

namespace Go.Sh.T
open Go Go.Sh
set_option linter.unusedSimpArgs false
set_option linter.unusedVariables false
end Go.Sh.T

namespace Go.Sh.T
open Go Go.Sh
set_option linter.unusedSimpArgs false
set_option linter.unusedVariables false
/- rising -/
def strLt (x y : ByteArray) : Bool := Op.bytesLess x.toList y.toList
def gapR (p : Option ByteArray) (s : ByteArray) : Bool := match p with
  | none => true
  | some q => strLt q s
def risingR : List ByteArray → Option ByteArray → Bool
  | [], _ => true
  | s :: r, p => kindR s == 1 && gapR p s && risingR r (some s)

end Go.Sh.T

namespace Go.Sh.T
open Go Go.Sh
set_option linter.unusedSimpArgs false
set_option linter.unusedVariables false

def emptyS (s : ByteArray) : Bool := s.toList == ByteArray.empty.toList
/-- Is a node as its kind wants it? -/
def nodeR (k n : Int) (s : ByteArray) (ls : List ByteArray) (m : Nat) : Bool :=
  !((k != 6 && !emptyS s) || (k != 9 && n != 0) || (k != 8 && decide ((ls.length : Int) > 0))) &&
  (bif decide (k ≥ 1) && decide (k ≤ 5) then (m : Int) == 0 else bif k == 6 then kindR s == 2 && (m : Int) == 0 else
   bif k == 9 then decide (n ≥ 0) && (decide (n ≤ 1073741824) && (m : Int) == 0) else bif k == 7 then (m : Int) == 2 else k == 8 && (risingR ls none && (ls.length : Int) == (m : Int)))

mutual
def Ty.right : Ty → Bool
  | ⟨k, n, s, ls, xs⟩ => Ty.rightL xs && nodeR k n s ls xs.length
def Ty.rightL : List Ty → Bool
  | [] => true
  | t :: r => t.right && Ty.rightL r
end
theorem Ty.right_eq (t : Ty) : t.right = (Ty.rightL t.args && nodeR t.k t.n t.name t.labels t.args.length) := by cases t; rw [Ty.right]

end Go.Sh.T

namespace Go.Sh.T
open Go Go.Sh
set_option linter.unusedSimpArgs false
set_option linter.unusedVariables false

/- how much a type has -/
def quo8 (s : ByteArray) : Int := IntKind.i64.wrap ((s.size : Int).tdiv 8)
def labs (n : Int) : List ByteArray → Int
  | [] => n
  | s :: r => labs (add64 n (quo8 s)) r
mutual
def Ty.much : Ty → Int
  | ⟨_, _, s, ls, xs⟩ => Ty.muchL (labs (add64 (add64 1 (quo8 s)) ls.length) (ls.take 1000)) xs
def Ty.muchL (n : Int) : List Ty → Int
  | [] => n
  | t :: r => bif decide (n < 3000) then Ty.muchL (add64 n t.much) r else n
end
theorem Ty.much_eq (t : Ty) : t.much = Ty.muchL (labs (add64 (add64 1 (quo8 t.name)) t.labels.length) (t.labels.take 1000)) t.args := by cases t; rw [Ty.much]

theorem div8 (s : ByteArray) : intBin .quo .i64 (s.size : Int) 8 = some (.lit (.int .i64 (quo8 s))) := (Eq.refl _).trans rfl

theorem much_spec : ∀ (t : Ty) (h : Heap), t.Ok → evw E 14 [.agg t.cells] h = some (.ret (.lit (.int .i64 t.much)), h)
  | t, h, ok => by
    have hlen := ok.len
    have hlab : t.labels.length ≤ 9223372036854775807 := ok.lab
    have loop1 : ∀ (m i : Nat) (acc : Int), i ≤ t.args.length → t.args.length < m + i → Lp14_1 (evw E) (t.args.length + t.labels.length + 1) h m h (.lit (.int .i64 t.k)) (.lit (.int .i64 t.n)) (.lit (.string t.name)) (.sl 1 (t.labels.map strC)) (.sl 5 (t.args.map Ty.cells)) (.lit (.int .i64 acc)) (.lit (.int .i64 (i : Int))) = some (.ret (.lit (.int .i64 (Ty.muchL acc (t.args.drop i)))), h) := by
      intro m
      induction m with
      | zero => intro i acc h1 h2; omega
      | succ m ih =>
        intro i acc h1 h2
        rw [Lp14_1_succ]
        simp only [lenA35, bind_some', bin_int, lssI, boolB, List.length_map]
        by_cases hi : i < t.args.length
        · have hrec := much_spec (t.args[i]) h (ok.arg (List.getElem_mem hi))
          rw [show decide ((i : Int) < (t.args.length : Int)) = true from by simpa using hi, condT, List.drop_eq_getElem_cons hi, Ty.muchL]
          cases decide (acc < 3000) with
          | false => rfl
          | true =>
            rw [condT, condT]
            simp only [indexA_map _ _ _ _ hi, bind_some', partA_full (Ty.cells_len _), hrec, onOut_ret, bin_int, addI]
            rw [incI (by omega)]
            exact ih (i + 1) _ hi (by omega)
        · rw [show decide ((i : Int) < (t.args.length : Int)) = false from by simpa using hi, condF]
          rw [List.drop_of_length_le (by omega), Ty.muchL]
    have loop0 : ∀ (m i : Nat) (acc : Int), i ≤ t.labels.length → t.labels.length < m + i → Lp14_0 (evw E) (t.args.length + t.labels.length + 1) h m h (.lit (.int .i64 t.k)) (.lit (.int .i64 t.n)) (.lit (.string t.name)) (.sl 1 (t.labels.map strC)) (.sl 5 (t.args.map Ty.cells)) (.lit (.int .i64 acc)) (.lit (.int .i64 (i : Int))) = some (.ret (.lit (.int .i64 (Ty.muchL (labs acc ((t.labels.drop i).take (1000 - i))) t.args))), h) := by
      have fin := fun acc => loop1 (t.args.length + t.labels.length + 1) 0 acc (Nat.zero_le _) (by omega)
      intro m
      induction m with
      | zero => intro i acc h1 h2; omega
      | succ m ih =>
        intro i acc h1 h2
        rw [Lp14_0_succ]
        simp only [lenA36, bind_some', bin_int, lssI, boolB, List.length_map]
        have fin' := fin acc
        rw [List.drop_zero, show ((0 : Nat) : Int) = 0 from rfl] at fin'
        by_cases hi : i < t.labels.length
        · rw [show decide ((i : Int) < (t.labels.length : Int)) = true from by simpa using hi, condT]
          by_cases hk : i < 1000
          · rw [show decide ((i : Int) < 1000) = true from by simp; omega, condT]
            simp only [indexA_map _ _ _ _ hi, bind_some', part_str, lenS, bin_int, div8, addI]
            rw [incI (by omega), List.drop_eq_getElem_cons hi, show 1000 - i = (1000 - (i + 1)) + 1 from by omega, List.take_succ_cons, labs]
            exact ih (i + 1) _ hi (by omega)
          · rw [show decide ((i : Int) < 1000) = false from by simp; omega, condF, show 1000 - i = 0 from by omega, List.take_zero, labs]
            exact fin'
        · rw [show decide ((i : Int) < (t.labels.length : Int)) = false from by simpa using hi, condF, List.drop_of_length_le (by omega), List.take_nil, labs]
          exact fin'
    refine evw_run primsC (t.args.length + t.labels.length + 1) rfl rfl rfl ?_
    rw [nf14]
    simp only [aggS, bind_some', Ty.cells_len, Ty.c0, Ty.c1, Ty.c2, Ty.c3, Ty.c4, lenS, bin_int, div8, addI, lenA36, List.length_map, show Nat.beq 5 5 = true from rfl]
    rw [condT]
    have := loop0 (t.args.length + t.labels.length + 1) 0 (add64 (add64 1 (quo8 t.name)) t.labels.length) (Nat.zero_le _) (by omega)
    rw [List.drop_zero, Nat.sub_zero, show ((0 : Nat) : Int) = 0 from rfl, ← Ty.much_eq] at this
    exact this
  termination_by t => SizeOf.sizeOf t
  decreasing_by exact Ty.size_arg hi

/- seals -/
structure Seal where
  rep : Ty
  bound : Ty
  df : ByteArray
  nd : Int
def Seal.cells (s : Seal) : List AV := s.rep.cells ++ (s.bound.cells ++ [.lit (.string s.df), .lit (.int .i64 s.nd)])
structure Seal.Ok (s : Seal) : Prop where
  rep : s.rep.Ok
  bound : s.bound.Ok
  df : s.df.size ≤ maxLen
@[simp] theorem Seal.len (s : Seal) : s.cells.length = 12 := by simp [Seal.cells]
theorem Seal.p0 (s : Seal) : partA true 5 0 (s.cells.drop 0) = some (.agg s.rep.cells) := by
  unfold partA
  rw [List.drop_zero, Seal.len, show Nat.ble (0 + 5) 12 = true from rfl, condT, condT, List.drop_zero, Seal.cells, List.take_left' (Ty.cells_len _)]
theorem Seal.d10 (s : Seal) : s.cells.drop 10 = [.lit (.string s.df), .lit (.int .i64 s.nd)] := by
  rw [show (10 : Nat) = 5 + 5 from rfl, ← List.drop_drop, Seal.cells, List.drop_left' (Ty.cells_len _), List.drop_left' (Ty.cells_len _)]
theorem get_rep (s : Seal) (i : Nat) (h : i < 5) : s.cells.getD i .dead = s.rep.cells.getD i .dead := by
  rw [Seal.cells, List.getD_eq_getElem?_getD, List.getElem?_append_left (by rw [Ty.cells_len]; exact h), ← List.getD_eq_getElem?_getD]
theorem get_bound (s : Seal) (i : Nat) (h : i < 5) : s.cells.getD (5 + i) .dead = s.bound.cells.getD i .dead := by
  rw [Seal.cells, List.getD_eq_getElem?_getD, List.getElem?_append_right (by rw [Ty.cells_len]; omega), Ty.cells_len, Nat.add_sub_cancel_left, List.getElem?_append_left (by rw [Ty.cells_len]; exact h), ← List.getD_eq_getElem?_getD]
theorem Seal.reRep (s : Seal) : [s.cells.getD 0 .dead, s.cells.getD 1 .dead, s.cells.getD 2 .dead, s.cells.getD 3 .dead, s.cells.getD 4 .dead] = s.rep.cells := by
  rw [get_rep s 0 (by decide), get_rep s 1 (by decide), get_rep s 2 (by decide), get_rep s 3 (by decide), get_rep s 4 (by decide), Ty.refold]
theorem Seal.reBound (s : Seal) : [s.cells.getD 5 .dead, s.cells.getD 6 .dead, s.cells.getD 7 .dead, s.cells.getD 8 .dead, s.cells.getD 9 .dead] = s.bound.cells := by
  rw [get_bound s 0 (by decide), get_bound s 1 (by decide), get_bound s 2 (by decide), get_bound s 3 (by decide), get_bound s 4 (by decide), Ty.refold]
theorem Seal.g10 (s : Seal) : s.cells.getD 10 .dead = .lit (.string s.df) := by
  have := congrArg (fun l => l.getD 0 AV.dead) s.d10
  simpa [List.getD_eq_getElem?_getD] using this
theorem Seal.g11 (s : Seal) : s.cells.getD 11 .dead = .lit (.int .i64 s.nd) := by
  have := congrArg (fun l => l.getD 1 AV.dead) s.d10
  simpa [List.getD_eq_getElem?_getD] using this
theorem Seal.re (s : Seal) : [s.cells.getD 0 .dead, s.cells.getD 1 .dead, s.cells.getD 2 .dead, s.cells.getD 3 .dead, s.cells.getD 4 .dead, s.cells.getD 5 .dead, s.cells.getD 6 .dead, s.cells.getD 7 .dead, s.cells.getD 8 .dead, s.cells.getD 9 .dead, s.cells.getD 10 .dead, s.cells.getD 11 .dead] = s.cells := by
  have h1 := s.reRep; have h2 := s.reBound
  have : ∀ a b c d e f g h i j k l : AV, [a, b, c, d, e, f, g, h, i, j, k, l] = [a, b, c, d, e] ++ ([f, g, h, i, j] ++ [k, l]) := fun _ _ _ _ _ _ _ _ _ _ _ _ => rfl
  rw [this, h1, h2, Seal.g10, Seal.g11, Seal.cells]

/-- how much the largest has -/
def max64 (x : Int) (l : List Int) : Int := l.foldl (fun x y => if y > x then y else x) x
def few15L (n : Int) : List Seal → Int
  | [] => n
  | s :: r => few15L (max64 n [s.rep.much, s.bound.much, quo8 s.df]) r
def few15 (l : List Seal) : Int := bif decide ((l.length : Int) > 12) then 5000 else few15L 0 (l.take 20)

end Go.Sh.T

namespace Go.Sh.T
open Go Go.Sh
set_option linter.unusedSimpArgs false
set_option linter.unusedVariables false
set_option maxRecDepth 100000

/- the program's names are the document's -/
theorem low_hi {c : Int} (h : 128 ≤ c) : lowB c = false := by
  unfold lowB; rw [show decide (c ≤ 122) = false from by simp; omega]; cases decide (c ≥ 97) <;> rfl
theorem up_hi {c : Int} (h : 128 ≤ c) : upB c = false := by
  unfold upB; rw [show decide (c ≤ 90) = false from by simp; omega]; cases decide (c ≥ 65) <;> rfl
theorem dig_hi {c : Int} (h : 128 ≤ c) : digB c = false := by
  unfold digB; rw [show decide (c ≤ 57) = false from by simp; omega]; cases decide (c ≥ 48) <;> rfl

theorem get_byte (s : ByteArray) (pos : Nat) (h : pos < s.size) (h' : pos < (bytes s).length) : s[pos]'h = (bytes s)[pos]'h' := rfl

theorem decode_big (s : ByteArray) (pos : Nat) (h : pos < s.size) (hb : 128 ≤ (s[pos]'h).toNat) : 128 ≤ (Utf8.decode s pos).1 := by
  have e : s.get! (pos + 0) = s[pos]'h := by
    show s.get! pos = _
    simp [ByteArray.get!, getElem!_pos, h]
    rfl
  simp only [Utf8.decode, e]
  rw [if_neg (by omega)]
  unfold Utf8.runeError
  repeat' split
  all_goals rename_i hc
  all_goals simp only [Bool.and_eq_true, decide_eq_true_eq, ge_iff_le] at *
  all_goals omega

theorem go_kind (s : ByteArray) : ∀ (m pos : Nat) (k : Int), 1 ≤ pos → s.size < m + pos → pos ≤ s.size → (k = 1 ∨ k = 2) → P176.goP s m pos k = kindL k ((bytes s).drop pos)
  | 0, pos, k, _, h1, h2, _ => by omega
  | m + 1, pos, k, h0, h1, h2, hk => by
    unfold P176.goP
    by_cases hp : pos < s.size
    · have hp' : pos < (bytes s).length := by rw [bytes_len]; exact hp
      rw [dif_pos hp, List.drop_eq_getElem_cons hp', kindL]
      have hz : (pos == 0) = false := by simp; omega
      by_cases hb : (s[pos]'hp).toNat < 128
      · rw [decode_ascii s pos hp hb, ← get_byte s pos hp hp']
        have ih := fun k hk => go_kind s m (pos + 1) k (by omega) (by omega) (by omega) hk
        simp only [hz]
        unfold P176.stepP badR
        rcases hk with e | e
        · subst e
          have := ih 1 (.inl rfl)
          cases lowB ((s[pos]'hp).toNat : Int) <;> cases upB ((s[pos]'hp).toNat : Int) <;> cases digB ((s[pos]'hp).toNat : Int) <;> first | rfl | exact this
        · subst e
          have := ih 2 (.inr rfl)
          cases lowB ((s[pos]'hp).toNat : Int) <;> cases upB ((s[pos]'hp).toNat : Int) <;> cases digB ((s[pos]'hp).toNat : Int) <;> first | rfl | exact this
      · have hd := decode_big s pos hp (by omega)
        have hq : (128 : Int) ≤ ((bytes s)[pos]'hp').toNat := by rw [← get_byte s pos hp hp']; omega
        unfold P176.stepP badR
        rw [low_hi (by omega), up_hi (by omega), dig_hi (by omega), low_hi hq, up_hi hq, dig_hi hq, hz]
        cases k != 0 <;> cases k == 2 <;> rfl
    · rw [dif_neg hp, List.drop_of_length_le (by rw [bytes_len]; omega), kindL]

theorem kindL_zero : ∀ l : List UInt8, kindL 0 l = 0
  | [] => rfl
  | c :: r => by rw [kindL, kindL_zero r]; cases badR 0 c.toNat <;> rfl

/-- What the document tells by letters alone. -/
def lettersR (s : ByteArray) : Int := match bytes s with
  | [] => 0
  | c :: r => bif decide (r.length ≥ 8) then 0 else kindL (kind0 c.toNat) r
theorem kindR_eq (s : ByteArray) : kindR s = bif keptR s != 0 then keptR s else lettersR s := rfl

theorem shape_letters (s : ByteArray) : P176.shapeP s = lettersR s := by
  unfold P176.shapeP lettersR
  have hl := bytes_len s
  cases hb : bytes s with
  | nil =>
    rw [hb] at hl
    have h0 : s.size = 0 := by simpa using hl.symm
    rw [show decide ((s.size : Int) > 8) = false from by simp; omega, cond_false]
    unfold P176.goP
    rw [dif_neg (by omega)]
  | cons c r =>
    rw [hb, List.length_cons] at hl
    show _ = cond (decide (r.length ≥ 8)) 0 (kindL (kind0 c.toNat) r)
    by_cases h8 : r.length ≥ 8
    · rw [show decide ((s.size : Int) > 8) = true from by simp; omega, show decide (r.length ≥ 8) = true from by simpa using h8]; rfl
    · rw [show decide ((s.size : Int) > 8) = false from by simp; omega, show decide (r.length ≥ 8) = false from by simpa using h8, cond_false]
      unfold P176.goP
      have hp : 0 < s.size := by omega
      rw [dif_pos hp]
      have hp' : 0 < (bytes s).length := by rw [hb]; simp
      have hg : s[0]'hp = c := by rw [get_byte s 0 hp hp']; simp [hb]
      have hdrop : (bytes s).drop 1 = r := by rw [hb]; rfl
      have ih := fun k hk => go_kind s 9 1 k (by omega) (by omega) (by omega) hk
      rw [hdrop] at ih
      by_cases hbb : (s[0]'hp).toNat < 128
      · rw [decode_ascii s 0 hp hbb, hg]
        unfold P176.stepP kind0
        have i1 := ih 1 (.inl rfl)
        have i2 := ih 2 (.inr rfl)
        have hlu : ¬ (lowB (c.toNat : Int) = true ∧ upB (c.toNat : Int) = true) := by
          intro ⟨h1, h2⟩
          unfold lowB at h1; unfold upB at h2
          simp at h1 h2; omega
        have hz := kindL_zero r
        cases hlo : lowB (c.toNat : Int) <;> cases hup : upB (c.toNat : Int)
        · exact hz.symm
        · exact i2
        · exact i1
        · exact absurd ⟨hlo, hup⟩ hlu
      · have hd := decode_big s 0 hp (by omega)
        have hq : (128 : Int) ≤ c.toNat := by rw [← hg]; omega
        unfold P176.stepP kind0
        rw [low_hi (by omega), up_hi (by omega), low_hi hq, up_hi hq]
        exact (kindL_zero r).symm

theorem shape_spec (s : ByteArray) (h : Heap) : evw E 176 [.lit (.string s)] h = some (.ret (.lit (.int .i64 (lettersR s))), h) := by
  rw [← shape_letters]
  exact evw_prim primsC (p := p176) (by kernel_rfl) rfl

def keptP (s : ByteArray) (x : Int) : Int := bif keys3.any (fun k => strEq s k) then 3 else bif keys4.any (fun k => strEq s k) then 4 else x
theorem strEq_comm (a b : ByteArray) : strEq a b = strEq b a := Bool.eq_iff_iff.2 ⟨fun h => by unfold strEq at *; rw [beq_iff_eq] at *; exact h.symm, fun h => by unfold strEq at *; rw [beq_iff_eq] at *; exact h.symm⟩
theorem keptP_eq (s : ByteArray) : keptP s (lettersR s) = kindR s := by
  have e : ∀ l : List ByteArray, (l.any fun k => strEq s k) = l.any fun k => strEq k s := fun l => by congr 1; funext k; exact strEq_comm s k
  rw [kindR_eq]; unfold keptP keptR
  rw [e, e]
  cases keys3.any (fun k => strEq k s) <;> cases keys4.any (fun k => strEq k s) <;> rfl

theorem eqS (s k : ByteArray) : binAV E .eql 9 (.lit (.string s)) (.lit (.string k)) = some (.lit (.bool (strEq s k))) := (Eq.refl _).trans rfl
theorem pkind_spec (s : ByteArray) (h : Heap) : evw E 128 [.lit (.string s)] h = some (.ret (.lit (.int .i64 (kindR s))), h) := by
  rw [← keptP_eq]
  refine evw_run primsC 0 rfl rfl rfl ?_
  rw [nf128, shape_spec, onOut_ret]
  unfold keptP keys3 keys4
  simp only [List.any_cons, List.any_nil, Bool.or_false]
  generalize lettersR s = x
  rw [eqS s ⟨#[108, 101, 116]⟩, bind_some', boolB, bind_some']
  cases strEq s ⟨#[108, 101, 116]⟩ with
  | true => rfl
  | false =>
  rw [condF]
  rw [eqS s ⟨#[105, 110]⟩, bind_some', boolB, bind_some']
  cases strEq s ⟨#[105, 110]⟩ with
  | true => rfl
  | false =>
  rw [condF]
  rw [eqS s ⟨#[105, 102]⟩, bind_some', boolB, bind_some']
  cases strEq s ⟨#[105, 102]⟩ with
  | true => rfl
  | false =>
  rw [condF]
  rw [eqS s ⟨#[116, 104, 101, 110]⟩, bind_some', boolB, bind_some']
  cases strEq s ⟨#[116, 104, 101, 110]⟩ with
  | true => rfl
  | false =>
  rw [condF]
  rw [eqS s ⟨#[101, 108, 115, 101]⟩, bind_some', boolB, bind_some']
  cases strEq s ⟨#[101, 108, 115, 101]⟩ with
  | true => rfl
  | false =>
  rw [condF]
  rw [eqS s ⟨#[102, 110]⟩, bind_some', boolB, bind_some']
  cases strEq s ⟨#[102, 110]⟩ with
  | true => rfl
  | false =>
  rw [condF]
  rw [eqS s ⟨#[99, 97, 108, 108]⟩, bind_some', boolB, bind_some']
  cases strEq s ⟨#[99, 97, 108, 108]⟩ with
  | true => rfl
  | false =>
  rw [condF]
  rw [eqS s ⟨#[100, 101, 102]⟩, bind_some', boolB, bind_some']
  cases strEq s ⟨#[100, 101, 102]⟩ with
  | true => rfl
  | false =>
  rw [condF]
  rw [eqS s ⟨#[116, 114, 117, 101]⟩, bind_some', boolB, bind_some']
  cases strEq s ⟨#[116, 114, 117, 101]⟩ with
  | true => rfl
  | false =>
  rw [condF]
  rw [eqS s ⟨#[102, 97, 108, 115, 101]⟩, bind_some', boolB, bind_some']
  cases strEq s ⟨#[102, 97, 108, 115, 101]⟩ with
  | true => rfl
  | false =>
  rw [condF]
  rw [eqS s ⟨#[73, 110, 116]⟩, bind_some', boolB, bind_some']
  cases strEq s ⟨#[73, 110, 116]⟩ with
  | true => rfl
  | false =>
  rw [condF]
  rw [eqS s ⟨#[66, 111, 111, 108]⟩, bind_some', boolB, bind_some']
  cases strEq s ⟨#[66, 111, 111, 108]⟩ with
  | true => rfl
  | false =>
  rw [condF]
  rw [eqS s ⟨#[83, 116, 114, 105, 110, 103]⟩, bind_some', boolB, bind_some']
  cases strEq s ⟨#[83, 116, 114, 105, 110, 103]⟩ with
  | true => rfl
  | false =>
  rw [condF]
  rw [eqS s ⟨#[84, 111, 112]⟩, bind_some', boolB, bind_some']
  cases strEq s ⟨#[84, 111, 112]⟩ with
  | true => rfl
  | false =>
  rw [condF]
  rfl

theorem pvar_spec (s : ByteArray) (h : Heap) : evw E 69 [.lit (.string s)] h = some (.ret (.lit (.bool (kindR s == 2))), h) := by
  refine evw_run primsC 0 rfl rfl rfl ?_
  rw [nf69, pkind_spec, onOut_ret, bin_int, eqlI, bind_some']
theorem pfine_spec (s : ByteArray) (h : Heap) : evw E 129 [.lit (.string s)] h = some (.ret (.lit (.bool (kindR s == 1))), h) := by
  refine evw_run primsC 0 rfl rfl rfl ?_
  rw [nf129, pkind_spec, onOut_ret, bin_int, eqlI, bind_some']

theorem prising_spec (l : List ByteArray) (hl : l.length ≤ maxLen) (h : Heap) : evw E 70 [.sl 1 (l.map strC)] h = some (.ret (.lit (.bool (risingR l none))), h) := by
  have hl : l.length ≤ 9223372036854775807 := hl
  have loop : ∀ (q i : Nat), i ≤ l.length → l.length < q + i → Lp70_0 (evw E) (l.length + 1) h q h (.sl 1 (l.map strC)) (.sl 1 (l.map strC)) (.lit (.int .i64 (l.length : Int))) (.lit (.int .i64 (i : Int))) = some (.ret (.lit (.bool (risingR (l.drop i) (if i = 0 then none else l[i - 1]?)))), h) := by
    intro q
    induction q with
    | zero => intro i h1 h2; omega
    | succ q ih =>
      intro i h1 h2
      rw [Lp70_0_succ, bin_int, lssI, bind_some', boolB, bind_some']
      by_cases hi : i < l.length
      · have hn := ih (i + 1) hi (by omega)
        rw [if_neg (by omega), Nat.add_sub_cancel, List.getElem?_eq_getElem hi] at hn
        rw [ltT hi, condT, indexA_map _ _ _ _ hi, bind_some', part_str, bind_some', pfine_spec, onOut_ret, notB, bind_some', boolB, bind_some', List.drop_eq_getElem_cons hi, risingR]
        cases e : kindR l[i] == 1 with
        | false => rfl
        | true =>
          rw [Bool.not_true, condF, bin_int, gtrI, bind_some', boolB, bind_some', Bool.true_and]
          by_cases h0 : i = 0
          · subst h0
            rw [show decide (((0 : Nat) : Int) > 0) = false from rfl, condF, bin_int, addI, bind_some', incI (by omega), if_pos rfl, gapR, Bool.true_and]
            exact hn
          · have hi1 : i - 1 < l.length := by omega
            rw [if_neg h0, List.getElem?_eq_getElem hi1, show decide ((i : Int) > 0) = true from by simp; omega, condT, bin_int, subI, bind_some', show sub64 (i : Int) 1 = ((i - 1 : Nat) : Int) from by unfold sub64; rw [IntWalk.i64_in _ (by omega)]; omega]
            rw [indexA_map _ _ _ _ hi1, bind_some', part_str, bind_some', bin_str, show strBin .geq l[i - 1] l[i] = some (.lit (.bool (!Op.bytesLess l[i - 1].toList l[i].toList))) from rfl, bind_some', boolB, bind_some']
            unfold gapR strLt
            simp only
            cases e2 : Op.bytesLess l[i - 1].toList l[i].toList with
            | false => rfl
            | true => rw [Bool.not_true, condF, Bool.true_and, bin_int, addI, bind_some', incI (by omega)]; exact hn
      · rw [ltF hi, condF, show l.drop i = [] from List.drop_eq_nil_of_le (by omega)]
        rfl
  refine evw_run primsC (l.length + 1) rfl rfl rfl ?_
  rw [nf70, lenA36, bind_some', List.length_map]
  have := loop (l.length + 1) 0 (Nat.zero_le _) (by omega)
  rw [if_pos rfl, List.drop_zero] at this
  exact this
end Go.Sh.T

namespace Go.Sh.T
open Go Go.Sh
set_option linter.unusedSimpArgs false
set_option linter.unusedVariables false
set_option maxRecDepth 100000

theorem applyS (F : Nat → List AV → Heap → R) (f : Nat) (caps args : List AV) (h : Heap) : applyV F (.fn f [] caps) args h = F f ([] ++ args ++ caps) h := (Eq.refl _).trans rfl
theorem any_spec (P : Ty → Bool) (fv : AV) (H : Heap) (l : List Ty) (hl : l.length ≤ maxLen) (hc : ∀ a ∈ l, applyV (evw E) fv [.agg a.cells] H = some (.ret (.lit (.bool (P a))), H)) : evw E 34 [.sl 5 (l.map Ty.cells), fv] H = some (.ret (.lit (.bool (l.any P))), H) := by
  have hl : l.length ≤ 9223372036854775807 := hl
  have loop : ∀ (m i : Nat), i ≤ l.length → l.length < m + i → ∃ r : Int, Lp74_0 (evw E) (l.length + 1) H m H (.sl 5 (l.map Ty.cells)) fv (.lit (.int .i64 (l.length : Int))) (.lit (.int .i64 (i : Int))) = some (.ret (.lit (.int .i64 r)), H) ∧ decide (r ≥ 0) = (l.drop i).any P := by
    intro m
    induction m with
    | zero => intro i h1 h2; omega
    | succ m ih =>
      intro i h1 h2
      rw [Lp74_0_succ, bin_int, lssI, bind_some', boolB, bind_some']
      by_cases hi : i < l.length
      · rw [ltT hi, condT, indexA_map _ _ _ _ hi, bind_some', partA_full (Ty.cells_len _), bind_some', hc _ (List.getElem_mem hi), onOut_ret, boolB, bind_some', List.drop_eq_getElem_cons hi, List.any_cons]
        cases e : P l[i] with
        | true => exact ⟨i, by rw [condT], by rw [Bool.true_or]; simp⟩
        | false =>
          rw [condF, bin_int, addI, bind_some', incI (by omega), Bool.false_or]
          exact ih (i + 1) hi (by omega)
      · exact ⟨-1, by rw [ltF hi, condF], by rw [List.drop_of_length_le (by omega)]; rfl⟩
  obtain ⟨r, h1, h2⟩ := loop (l.length + 1) 0 (Nat.zero_le _) (by omega)
  rw [List.drop_zero] at h2
  have h166 : evw E 74 [.sl 5 (l.map Ty.cells), fv] H = some (.ret (.lit (.int .i64 r)), H) := by
    refine evw_run primsC (l.length + 1) rfl rfl rfl ?_
    rw [nf74, lenA35, bind_some', List.length_map]
    exact h1
  refine evw_run primsC 0 rfl rfl rfl ?_
  rw [nf34, h166, onOut_ret, bin_int, geqI, bind_some', h2]

end Go.Sh.T

namespace Go.Sh.T
open Go Go.Sh
set_option linter.unusedSimpArgs false
set_option linter.unusedVariables false
set_option maxRecDepth 100000

theorem andB (a b : Bool) (h : Heap) : cond a (some (Out.ret (.lit (.bool b)), h)) (some (.ret (.lit (.bool false)), h)) = some (.ret (.lit (.bool (a && b))), h) := by cases a <;> rfl
def bareR (k n : Int) (s : ByteArray) (m : Nat) : Bool := (k == 6 || emptyS s) && ((k == 9 || n == 0) && (k == 8 || (m : Int) == 0))
theorem bin_strE (x y : ByteArray) : binAV E .eql 9 (.lit (.string x)) (.lit (.string y)) = some (.lit (.bool (x.toList == y.toList))) := (Eq.refl _).trans rfl

theorem bare_spec (t : Ty) (h : Heap) : evw E 67 [.agg t.cells] h = some (.ret (.lit (.bool (bareR t.k t.n t.name t.labels.length))), h) := by
  refine evw_run primsC 0 rfl rfl rfl ?_
  rw [nf67, aggS, bind_some', Ty.cells_len, show Nat.beq 5 5 = true from rfl, condT, Ty.c0, Ty.c1, Ty.c2, Ty.c3]
  simp only [bin_int, eqlI, bind_some', boolB, bin_strE, lenA36, List.length_map]
  unfold bareR emptyS
  cases t.k == 6 <;> cases t.k == 9 <;> cases t.k == 8 <;> cases t.n == 0 <;> cases t.name.toList == ByteArray.empty.toList <;> rfl

theorem pright_tail (k n : Int) (s : ByteArray) (ls : List ByteArray) (xs : List Ty) (hl : ls.length ≤ maxLen) (h : Heap) (hb : bareR k n s ls.length = true) {x : R}
    (hx : x = evw E 31 [.agg (Ty.mk k n s ls xs).cells] h) (h135 : evw E 34 [.sl 5 (xs.map Ty.cells), .fn 68 [] []] h = some (.ret (.lit (.bool false)), h)) : x = some (.ret (.lit (.bool (nodeR k n s ls xs.length))), h) := by
  rw [hx]
  refine evw_run primsC 0 rfl rfl rfl ?_
  rw [nf31, aggS, bind_some', Ty.cells_len, show Nat.beq 5 5 = true from rfl, condT, Ty.refold, bare_spec, onOut_ret, notB, bind_some', boolB, bind_some', show bareR (Ty.mk k n s ls xs).k (Ty.mk k n s ls xs).n (Ty.mk k n s ls xs).name (Ty.mk k n s ls xs).labels.length = true from hb, Bool.not_true, condF, Ty.c0, Ty.c1, Ty.c2, Ty.c3, Ty.c4, show (Ty.mk k n s ls xs).args = xs from rfl, h135, onOut_ret, boolB, bind_some', condF]
  have hr := prising_spec ls hl h
  have hbn : nodeR k n s ls xs.length = (bif decide (k ≥ 1) && decide (k ≤ 5) then (xs.length : Int) == 0 else bif k == 6 then kindR s == 2 && (xs.length : Int) == 0 else
      bif k == 9 then decide (n ≥ 0) && (decide (n ≤ 1073741824) && (xs.length : Int) == 0) else bif k == 7 then (xs.length : Int) == 2 else k == 8 && (risingR ls none && (ls.length : Int) == (xs.length : Int))) := by
    unfold nodeR
    unfold bareR at hb
    have e1 : decide ((ls.length : Int) > 0) = !((ls.length : Int) == 0) := by
      by_cases h0 : ls.length = 0
      · rw [h0]; rfl
      · rw [decide_eq_true (show (ls.length : Int) > 0 by omega), beq_false_of_ne (show (ls.length : Int) ≠ 0 by omega)]; rfl
    rw [e1]
    simp only [bne]
    revert hb
    cases k == 6 <;> cases k == 9 <;> cases k == 8 <;> cases n == 0 <;> cases emptyS s <;> cases (ls.length : Int) == 0 <;> intro hb <;> first | (cases hb; done) | simp
  rw [hbn]
  simp only [Ty.k, Ty.n, Ty.name, Ty.labels]
  have h10 : k = 1 ∨ k = 2 ∨ k = 3 ∨ k = 4 ∨ k = 5 ∨ k = 6 ∨ k = 7 ∨ k = 8 ∨ k = 9 ∨ (k ≠ 1 ∧ k ≠ 2 ∧ k ≠ 3 ∧ k ≠ 4 ∧ k ≠ 5 ∧ k ≠ 6 ∧ k ≠ 7 ∧ k ≠ 8 ∧ k ≠ 9) := by omega
  rcases h10 with e | e | e | e | e | e | e | e | e | e
  all_goals try subst e
  all_goals simp only [bin_int, eqlI, geqI, leqI, bind_some', boolB, lenA35, lenA36, List.length_map, pvar_spec, hr, onOut_ret, Int.reduceBEq, condT, condF, andB, Int.reduceLE, Int.reduceGE, decide_true, decide_false, Bool.true_and, Bool.false_and, Bool.and_true, Bool.and_false]
  · rw [Bool.and_comm]
  · have e1 : ((xs.length : Int) == (ls.length : Int)) = ((ls.length : Int) == (xs.length : Int)) := by
      by_cases h0 : (xs.length : Int) = (ls.length : Int)
      · rw [h0]
      · rw [beq_false_of_ne h0, beq_false_of_ne (Ne.symm h0)]
    rw [e1, Bool.and_comm]
  · cases (xs.length : Int) == 0 <;> cases decide (n ≥ 0) <;> cases decide (n ≤ 1073741824) <;> rfl
  · obtain ⟨e1, e2, e3, e4, e5, e6, e7, e8, e9⟩ := e
    have e0 : (decide (k ≥ 1) && decide (k ≤ 5)) = false := by
      by_cases h0 : k ≥ 1
      · rw [decide_eq_true h0, decide_eq_false (show ¬ k ≤ 5 by omega)]; rfl
      · rw [decide_eq_false h0]; rfl
    rw [e0, beq_false_of_ne e1, beq_false_of_ne e2, beq_false_of_ne e3, beq_false_of_ne e4, beq_false_of_ne e5, beq_false_of_ne e6, beq_false_of_ne e7, beq_false_of_ne e8, beq_false_of_ne e9]
    rfl

theorem rightL_any : ∀ l : List Ty, l.any (fun a => !a.right) = !Ty.rightL l
  | [] => by rw [Ty.rightL]; rfl
  | t :: r => by rw [List.any_cons, Ty.rightL, rightL_any r, Bool.not_and]

/-- The program's Right is the document's. -/
theorem pright_spec : ∀ (t : Ty) (h : Heap), t.Ok → evw E 31 [.agg t.cells] h = some (.ret (.lit (.bool t.right)), h)
  | t, h, ok => by
    have hrec : ∀ a ∈ t.args, ∀ H : Heap, evw E 31 [.agg a.cells] H = some (.ret (.lit (.bool a.right)), H) := by
      intro a ha H
      obtain ⟨i, hi, rfl⟩ := List.mem_iff_getElem.1 ha
      exact pright_spec t.args[i] H (ok.arg ha)
    have h135 : evw E 34 [.sl 5 (t.args.map Ty.cells), .fn 68 [] []] h = some (.ret (.lit (.bool (!Ty.rightL t.args))), h) := by
      rw [← rightL_any]
      refine any_spec (fun a => !a.right) (.fn 68 [] []) h t.args ok.len fun a ha => ?_
      rw [applyS]
      show evw E 68 [.agg a.cells] h = _
      refine evw_run primsC 0 rfl rfl rfl ?_
      rw [nf68, aggS, bind_some', Ty.cells_len, show Nat.beq 5 5 = true from rfl, condT, Ty.refold, hrec a ha, onOut_ret, notB, bind_some']
    cases hb : bareR t.k t.n t.name t.labels.length with
    | false =>
      refine evw_run primsC 0 rfl rfl rfl ?_
      rw [nf31, aggS, bind_some', Ty.cells_len, show Nat.beq 5 5 = true from rfl, condT, Ty.refold, bare_spec, onOut_ret, notB, bind_some', boolB, bind_some', hb, Bool.not_false, condT, Ty.right_eq]
      have : nodeR t.k t.n t.name t.labels t.args.length = false := by
        unfold nodeR
        unfold bareR at hb
        have e1 : decide ((t.labels.length : Int) > 0) = !((t.labels.length : Int) == 0) := by
          by_cases h0 : t.labels.length = 0
          · rw [h0]; rfl
          · rw [decide_eq_true (show (t.labels.length : Int) > 0 by omega), beq_false_of_ne (show (t.labels.length : Int) ≠ 0 by omega)]; rfl
        rw [e1]
        simp only [bne]
        revert hb
        cases t.k == 6 <;> cases t.k == 9 <;> cases t.k == 8 <;> cases t.n == 0 <;> cases emptyS t.name <;> cases (t.labels.length : Int) == 0 <;> intro hb <;> first | (cases hb; done) | simp
      rw [this, Bool.and_false]
    | true =>
      cases hr : Ty.rightL t.args with
      | false =>
        refine evw_run primsC 0 rfl rfl rfl ?_
        rw [nf31, aggS, bind_some', Ty.cells_len, show Nat.beq 5 5 = true from rfl, condT, Ty.refold, bare_spec, onOut_ret, notB, bind_some', boolB, bind_some', hb, Bool.not_true, condF, Ty.c4, h135, onOut_ret, boolB, bind_some', hr, Bool.not_false, condT, Ty.right_eq, hr, Bool.false_and]
      | true =>
        rw [hr, Bool.not_true] at h135
        have := pright_tail t.k t.n t.name t.labels t.args ok.lab h hb rfl h135
        rw [Ty.right_eq, hr, Bool.true_and]
        rw [show (⟨t.k, t.n, t.name, t.labels, t.args⟩ : Ty) = t from by cases t; rfl] at this
        exact this
  termination_by t => SizeOf.sizeOf t
  decreasing_by exact Ty.size_arg hi
end Go.Sh.T

namespace Go.Sh.T
open Go Go.Sh
set_option linter.unusedSimpArgs false
set_option linter.unusedVariables false

structure Val where
  k : Int
  n : Int
  m : Int
  inn : Bool
  s : ByteArray
  df : ByteArray
  nd : Int
  types : List Ty
  labels : List ByteArray
  kids : List Val
structure Core where
  k : Int
  n : Int
  m : Int
  inn : Bool
  name : ByteArray
  df : ByteArray
  nd : Int
  types : List Ty
  labels : List ByteArray
  kids : List Core
  vals : List Val

mutual
def Val.cells : Val → List AV
  | ⟨k, n, m, b, s, d, e, ts, ls, xs⟩ => [.lit (.int .i64 k), .lit (.int .i64 n), .lit (.int .i64 m), .lit (.bool b), .lit (.string s), .lit (.string d), .lit (.int .i64 e), .sl 5 (ts.map Ty.cells), .sl 1 (ls.map strC), .sl 10 (Val.cellsL xs)]
def Val.cellsL : List Val → List (List AV)
  | [] => []
  | t :: r => t.cells :: Val.cellsL r
end
theorem Val.cellsL_map : ∀ l : List Val, Val.cellsL l = l.map Val.cells
  | [] => rfl
  | t :: r => by rw [Val.cellsL, Val.cellsL_map r]; rfl
theorem Val.cells_eq (t : Val) : t.cells = [.lit (.int .i64 t.k), .lit (.int .i64 t.n), .lit (.int .i64 t.m), .lit (.bool t.inn), .lit (.string t.s), .lit (.string t.df), .lit (.int .i64 t.nd), .sl 5 (t.types.map Ty.cells), .sl 1 (t.labels.map strC), .sl 10 (t.kids.map Val.cells)] := by
  cases t; rw [Val.cells, Val.cellsL_map]
mutual
def Core.cells : Core → List AV
  | ⟨k, n, m, b, s, d, e, ts, ls, xs, vs⟩ => [.lit (.int .i64 k), .lit (.int .i64 n), .lit (.int .i64 m), .lit (.bool b), .lit (.string s), .lit (.string d), .lit (.int .i64 e), .sl 5 (ts.map Ty.cells), .sl 1 (ls.map strC), .sl 11 (Core.cellsL xs), .sl 10 (vs.map Val.cells)]
def Core.cellsL : List Core → List (List AV)
  | [] => []
  | t :: r => t.cells :: Core.cellsL r
end
theorem Core.cellsL_map : ∀ l : List Core, Core.cellsL l = l.map Core.cells
  | [] => rfl
  | t :: r => by rw [Core.cellsL, Core.cellsL_map r]; rfl
theorem Core.cells_eq (t : Core) : t.cells = [.lit (.int .i64 t.k), .lit (.int .i64 t.n), .lit (.int .i64 t.m), .lit (.bool t.inn), .lit (.string t.name), .lit (.string t.df), .lit (.int .i64 t.nd), .sl 5 (t.types.map Ty.cells), .sl 1 (t.labels.map strC), .sl 11 (t.kids.map Core.cells), .sl 10 (t.vals.map Val.cells)] := by
  cases t; rw [Core.cells, Core.cellsL_map]

@[simp] theorem Val.cells_len (t : Val) : t.cells.length = 10 := by rw [Val.cells_eq]; rfl
@[simp] theorem Val.c0 (t : Val) : t.cells.getD 0 .dead = .lit (.int .i64 t.k) := by rw [Val.cells_eq]; rfl
@[simp] theorem Val.c1 (t : Val) : t.cells.getD 1 .dead = .lit (.int .i64 t.n) := by rw [Val.cells_eq]; rfl
@[simp] theorem Val.c2 (t : Val) : t.cells.getD 2 .dead = .lit (.int .i64 t.m) := by rw [Val.cells_eq]; rfl
@[simp] theorem Val.c3 (t : Val) : t.cells.getD 3 .dead = .lit (.bool t.inn) := by rw [Val.cells_eq]; rfl
@[simp] theorem Val.c4 (t : Val) : t.cells.getD 4 .dead = .lit (.string t.s) := by rw [Val.cells_eq]; rfl
@[simp] theorem Val.c5 (t : Val) : t.cells.getD 5 .dead = .lit (.string t.df) := by rw [Val.cells_eq]; rfl
@[simp] theorem Val.c6 (t : Val) : t.cells.getD 6 .dead = .lit (.int .i64 t.nd) := by rw [Val.cells_eq]; rfl
@[simp] theorem Val.c7 (t : Val) : t.cells.getD 7 .dead = .sl 5 (t.types.map Ty.cells) := by rw [Val.cells_eq]; rfl
@[simp] theorem Val.c8 (t : Val) : t.cells.getD 8 .dead = .sl 1 (t.labels.map strC) := by rw [Val.cells_eq]; rfl
@[simp] theorem Val.c9 (t : Val) : t.cells.getD 9 .dead = .sl 10 (t.kids.map Val.cells) := by rw [Val.cells_eq]; rfl
theorem Val.re (t : Val) : [t.cells.getD 0 .dead, t.cells.getD 1 .dead, t.cells.getD 2 .dead, t.cells.getD 3 .dead, t.cells.getD 4 .dead, t.cells.getD 5 .dead, t.cells.getD 6 .dead, t.cells.getD 7 .dead, t.cells.getD 8 .dead, t.cells.getD 9 .dead] = t.cells := by
  rw [Val.cells_eq]; rfl
@[simp] theorem Core.cells_len (t : Core) : t.cells.length = 11 := by rw [Core.cells_eq]; rfl
@[simp] theorem Core.c0 (t : Core) : t.cells.getD 0 .dead = .lit (.int .i64 t.k) := by rw [Core.cells_eq]; rfl
@[simp] theorem Core.c1 (t : Core) : t.cells.getD 1 .dead = .lit (.int .i64 t.n) := by rw [Core.cells_eq]; rfl
@[simp] theorem Core.c2 (t : Core) : t.cells.getD 2 .dead = .lit (.int .i64 t.m) := by rw [Core.cells_eq]; rfl
@[simp] theorem Core.c3 (t : Core) : t.cells.getD 3 .dead = .lit (.bool t.inn) := by rw [Core.cells_eq]; rfl
@[simp] theorem Core.c4 (t : Core) : t.cells.getD 4 .dead = .lit (.string t.name) := by rw [Core.cells_eq]; rfl
@[simp] theorem Core.c5 (t : Core) : t.cells.getD 5 .dead = .lit (.string t.df) := by rw [Core.cells_eq]; rfl
@[simp] theorem Core.c6 (t : Core) : t.cells.getD 6 .dead = .lit (.int .i64 t.nd) := by rw [Core.cells_eq]; rfl
@[simp] theorem Core.c7 (t : Core) : t.cells.getD 7 .dead = .sl 5 (t.types.map Ty.cells) := by rw [Core.cells_eq]; rfl
@[simp] theorem Core.c8 (t : Core) : t.cells.getD 8 .dead = .sl 1 (t.labels.map strC) := by rw [Core.cells_eq]; rfl
@[simp] theorem Core.c9 (t : Core) : t.cells.getD 9 .dead = .sl 11 (t.kids.map Core.cells) := by rw [Core.cells_eq]; rfl
@[simp] theorem Core.c10 (t : Core) : t.cells.getD 10 .dead = .sl 10 (t.vals.map Val.cells) := by rw [Core.cells_eq]; rfl
theorem Core.re (t : Core) : [t.cells.getD 0 .dead, t.cells.getD 1 .dead, t.cells.getD 2 .dead, t.cells.getD 3 .dead, t.cells.getD 4 .dead, t.cells.getD 5 .dead, t.cells.getD 6 .dead, t.cells.getD 7 .dead, t.cells.getD 8 .dead, t.cells.getD 9 .dead, t.cells.getD 10 .dead] = t.cells := by
  rw [Core.cells_eq]; rfl

inductive Val.Ok : Val → Prop
  | mk {t : Val} (hs : t.s.size ≤ maxLen) (hd : t.df.size ≤ maxLen) (htl : t.types.length ≤ maxLen) (hts : ∀ a ∈ t.types, a.Ok) (hl : t.labels.length ≤ maxLen) (hls : ∀ s ∈ t.labels, s.size ≤ maxLen) (ha : t.kids.length ≤ maxLen) (has : ∀ a ∈ t.kids, a.Ok) : t.Ok
inductive Core.Ok : Core → Prop
  | mk {t : Core} (hk : (Lit.int .i64 t.k).wf = true) (hn : (Lit.int .i64 t.n).wf = true) (hm : (Lit.int .i64 t.m).wf = true) (he : (Lit.int .i64 t.nd).wf = true) (hs : t.name.size ≤ maxLen) (hd : t.df.size ≤ maxLen) (htl : t.types.length ≤ maxLen) (hts : ∀ a ∈ t.types, a.Ok) (hl : t.labels.length ≤ maxLen) (hls : ∀ s ∈ t.labels, s.size ≤ maxLen) (ha : t.kids.length ≤ maxLen) (has : ∀ a ∈ t.kids, a.Ok) (hv : t.vals.length ≤ maxLen) (hvs : ∀ a ∈ t.vals, a.Ok) : t.Ok
theorem Val.Ok.len {t : Val} (h : t.Ok) : t.kids.length ≤ maxLen := by cases h with | mk _ _ _ _ _ _ ha _ => exact ha
theorem Val.Ok.kid {t : Val} (h : t.Ok) {a : Val} (ha : a ∈ t.kids) : a.Ok := by cases h with | mk _ _ _ _ _ _ _ has => exact has a ha
theorem Val.Ok.tlen {t : Val} (h : t.Ok) : t.types.length ≤ maxLen := by cases h with | mk _ _ ha _ _ _ _ _ => exact ha
theorem Val.Ok.ty {t : Val} (h : t.Ok) {a : Ty} (ha : a ∈ t.types) : a.Ok := by cases h with | mk _ _ _ has _ _ _ _ => exact has a ha
theorem Val.Ok.lab {t : Val} (h : t.Ok) : t.labels.length ≤ maxLen := by cases h with | mk _ _ _ _ ha _ _ _ => exact ha
theorem Val.Ok.str {t : Val} (h : t.Ok) : t.s.size ≤ maxLen := by cases h with | mk hs _ _ _ _ _ _ _ => exact hs
theorem Val.Ok.def {t : Val} (h : t.Ok) : t.df.size ≤ maxLen := by cases h with | mk _ hs _ _ _ _ _ _ => exact hs
theorem Core.Ok.len {t : Core} (h : t.Ok) : t.kids.length ≤ maxLen := by cases h with | mk _ _ _ _ _ _ _ _ _ _ ha _ _ _ => exact ha
theorem Core.Ok.kid {t : Core} (h : t.Ok) {a : Core} (ha : a ∈ t.kids) : a.Ok := by cases h with | mk _ _ _ _ _ _ _ _ _ _ _ has _ _ => exact has a ha
theorem Core.Ok.tlen {t : Core} (h : t.Ok) : t.types.length ≤ maxLen := by cases h with | mk _ _ _ _ _ _ ha _ _ _ _ _ _ _ => exact ha
theorem Core.Ok.ty {t : Core} (h : t.Ok) {a : Ty} (ha : a ∈ t.types) : a.Ok := by cases h with | mk _ _ _ _ _ _ _ has _ _ _ _ _ _ => exact has a ha
theorem Core.Ok.lab {t : Core} (h : t.Ok) : t.labels.length ≤ maxLen := by cases h with | mk _ _ _ _ _ _ _ _ ha _ _ _ _ _ => exact ha
theorem Core.Ok.str {t : Core} (h : t.Ok) : t.name.size ≤ maxLen := by cases h with | mk _ _ _ _ hs _ _ _ _ _ _ _ _ _ => exact hs
theorem Core.Ok.def {t : Core} (h : t.Ok) : t.df.size ≤ maxLen := by cases h with | mk _ _ _ _ _ hs _ _ _ _ _ _ _ _ => exact hs
theorem Core.Ok.val {t : Core} (h : t.Ok) {a : Val} (ha : a ∈ t.vals) : a.Ok := by cases h with | mk _ _ _ _ _ _ _ _ _ _ _ _ _ has => exact has a ha

theorem Val.size_kid {t : Val} {i : Nat} (hi : i < t.kids.length) : SizeOf.sizeOf t.kids[i] < SizeOf.sizeOf t := by
  have := List.sizeOf_lt_of_mem (List.getElem_mem hi)
  cases t; simp only [Val.mk.sizeOf_spec] at *; omega
theorem Core.size_kid {t : Core} {i : Nat} (hi : i < t.kids.length) : SizeOf.sizeOf t.kids[i] < SizeOf.sizeOf t := by
  have := List.sizeOf_lt_of_mem (List.getElem_mem hi)
  cases t; simp only [Core.mk.sizeOf_spec] at *; omega

/- strings: the same bytes, the same string -/
theorem toList_loop (s : ByteArray) : ∀ (m i : Nat) (r : List UInt8), s.size ≤ m + i → ByteArray.toList.loop s i r = r.reverse ++ s.data.toList.drop i
  | 0, i, r, h => by
    unfold ByteArray.toList.loop
    rw [if_neg (by omega), List.drop_of_length_le (show s.size ≤ i by omega), List.append_nil]
  | m + 1, i, r, h => by
    unfold ByteArray.toList.loop
    split
    · rename_i hi
      have hi' : i < s.data.toList.length := hi
      have e : s.get! i = s.data.toList[i]'hi' := by
        show s.data[i]! = _
        rw [getElem!_pos s.data i hi]; rfl
      rw [toList_loop s m (i + 1) _ (by omega), List.drop_eq_getElem_cons hi', e, List.reverse_cons, List.append_assoc]; rfl
    · rename_i hi
      rw [List.drop_of_length_le (show s.size ≤ i by omega), List.append_nil]
theorem toList_data (s : ByteArray) : s.toList = s.data.toList := by
  unfold ByteArray.toList
  rw [toList_loop s s.size 0 [] (by omega)]; rfl
theorem strEq_iff {a b : ByteArray} : strEq a b = true ↔ a = b := by
  unfold strEq
  rw [beq_iff_eq, toList_data, toList_data]
  constructor
  · intro h
    cases a; cases b
    rename_i x y
    cases x; cases y
    have h : (_ : List UInt8) = _ := h
    exact congrArg (fun l => ByteArray.mk (Array.mk l)) h
  · rintro rfl; rfl

/- the same types -/
theorem sameS_iff : ∀ (l m : List ByteArray), (decide (l.length = m.length) && sameS l m) = true ↔ l = m
  | [], [] => by simp [sameS]
  | [], y :: m => by simp
  | x :: l, [] => by simp
  | x :: l, y :: m => by
    have := sameS_iff l m
    rw [Bool.and_eq_true, decide_eq_true_iff] at this
    rw [Bool.and_eq_true, decide_eq_true_iff, sameS, Bool.and_eq_true, strEq_iff, List.cons.injEq, ← this]
    simp only [List.length_cons, Nat.add_right_cancel_iff]
    exact ⟨fun ⟨a, b, c⟩ => ⟨b, a, c⟩, fun ⟨b, a, c⟩ => ⟨a, b, c⟩⟩
mutual
theorem Ty.same_iff : ∀ t u : Ty, t.same u = true ↔ t = u
  | ⟨k, n, s, ls, xs⟩, ⟨k', n', s', ls', xs'⟩ => by
    have h1 := Ty.sameL_iff xs xs'
    have h2 := sameS_iff ls ls'
    rw [Ty.same]
    simp only [Bool.and_eq_true, decide_eq_true_iff, strEq_iff, Ty.mk.injEq, Bool.not_eq_true', bne_eq_false_iff_eq] at *
    rw [← h1, ← h2]
    constructor
    · rintro ⟨⟨⟨⟨⟨a, b⟩, c⟩, d⟩, e⟩, f⟩; exact ⟨a, b, c, d, e, f⟩
    · rintro ⟨a, b, c, d, e, f⟩; exact ⟨⟨⟨⟨⟨a, b⟩, c⟩, d⟩, e⟩, f⟩
theorem Ty.sameL_iff : ∀ l m : List Ty, (decide (l.length = m.length) && Ty.sameL l m) = true ↔ l = m
  | [], [] => by simp [Ty.sameL]
  | [], y :: m => by simp
  | x :: l, [] => by simp
  | x :: l, y :: m => by
    have h1 := Ty.same_iff x y
    have h2 := Ty.sameL_iff l m
    rw [Bool.and_eq_true, decide_eq_true_iff] at h2
    rw [Bool.and_eq_true, decide_eq_true_iff, Ty.sameL, Bool.and_eq_true, h1, List.cons.injEq, ← h2]
    simp only [List.length_cons, Nat.add_right_cancel_iff]
    exact ⟨fun ⟨a, b, c⟩ => ⟨b, a, c⟩, fun ⟨b, a, c⟩ => ⟨a, b, c⟩⟩
end

/-- Are they the same: the law's question. -/
noncomputable def eqd {α : Type} (a b : α) : Bool := @decide (a = b) (Classical.propDecidable _)
theorem eqd_iff {α : Type} {a b : α} : eqd a b = true ↔ a = b := by unfold eqd; exact @decide_eq_true_iff _ (Classical.propDecidable _)
theorem strEq_eqd (a b : ByteArray) : strEq a b = eqd a b := by rw [Bool.eq_iff_iff, strEq_iff, eqd_iff]
theorem int_eqd (a b : Int) : (a == b) = eqd a b := by rw [Bool.eq_iff_iff, beq_iff_eq, eqd_iff]
theorem Val.eqd_eq (a b : Val) : eqd a b = (eqd a.k b.k && (eqd a.n b.n && (eqd a.m b.m && (eqd a.inn b.inn && (eqd a.s b.s && ((eqd a.df b.df && eqd a.nd b.nd) && (eqd a.types b.types && (eqd a.labels b.labels && eqd a.kids b.kids)))))))) := by
  rw [Bool.eq_iff_iff]
  simp only [Bool.and_eq_true, eqd_iff]
  cases a; cases b
  simp only [Val.mk.injEq]
  constructor
  · rintro ⟨a, b, c, d, e, f, g, h, i, j⟩; exact ⟨a, b, c, d, e, ⟨f, g⟩, h, i, j⟩
  · rintro ⟨a, b, c, d, e, ⟨f, g⟩, h, i, j⟩; exact ⟨a, b, c, d, e, f, g, h, i, j⟩
theorem Core.eqd_eq (a b : Core) : eqd a b = (eqd a.k b.k && (eqd a.n b.n && (eqd a.m b.m && (eqd a.inn b.inn && (eqd a.name b.name && ((eqd a.df b.df && eqd a.nd b.nd) && (eqd a.types b.types && (eqd a.labels b.labels && (eqd a.vals b.vals && eqd a.kids b.kids))))))))) := by
  rw [Bool.eq_iff_iff]
  simp only [Bool.and_eq_true, eqd_iff]
  cases a; cases b
  simp only [Core.mk.injEq]
  constructor
  · rintro ⟨a, b, c, d, e, f, g, h, i, j, k⟩; exact ⟨a, b, c, d, e, ⟨f, g⟩, h, i, k, j⟩
  · rintro ⟨a, b, c, d, e, ⟨f, g⟩, h, i, j, k⟩; exact ⟨a, b, c, d, e, f, g, h, i, k, j⟩
end Go.Sh.T

namespace Go.Sh.T
open Go Go.Sh
set_option linter.unusedSimpArgs false
set_option linter.unusedVariables false
set_option maxRecDepth 100000
theorem Ty.re (t : Ty) : [t.cells.getD 0 .dead, t.cells.getD 1 .dead, t.cells.getD 2 .dead, t.cells.getD 3 .dead, t.cells.getD 4 .dead] = t.cells := Ty.refold t
theorem int_ne (a b : Int) : (a != b) = !(eqd a b) := by rw [← int_eqd]; rfl
theorem neS (a b : ByteArray) : strBin .neq a b = some (.lit (.bool (!(eqd a b)))) := by
  have : strBin .neq a b = some (.lit (.bool (!(strEq a b)))) := (Eq.refl _).trans rfl
  rw [this, strEq_eqd]
/- ty.Same -/
theorem Ty.eqd_eq (a b : Ty) : eqd a b = (eqd a.k b.k && (eqd a.n b.n && (eqd a.name b.name && (eqd a.labels b.labels && eqd a.args b.args)))) := by
  rw [Bool.eq_iff_iff]
  simp only [Bool.and_eq_true, eqd_iff]
  cases a; cases b
  simp only [Ty.mk.injEq]
/- values -/
/- terms -/
end Go.Sh.T

/- Values: whether they are right (the program's), how large they are. -/
namespace Go.Sh.T
open Go Go.Sh
set_option linter.unusedSimpArgs false
set_option linter.unusedVariables false
set_option maxRecDepth 100000
theorem b5 : Nat.beq 5 5 = true := rfl
theorem b10 : Nat.beq 10 10 = true := rfl
theorem b2 (x y : AV) : Nat.beq ([x, y] : List AV).length 2 = true := (Eq.refl _).trans rfl
theorem g0 (x y : AV) : ([x, y] : List AV).getD 0 .dead = x := (Eq.refl _).trans rfl
theorem g1 (x y : AV) : ([x, y] : List AV).getD 1 .dead = y := (Eq.refl _).trans rfl
theorem eqlE (a b : Int) : intBin .eql .i64 a b = some (.lit (.bool (eqd a b))) := by rw [eqlI, int_eqd]
theorem neqE (a b : Int) : intBin .neq .i64 a b = some (.lit (.bool (!(eqd a b)))) := by rw [neqI, int_ne]
def zeroV : Val := ⟨0, 0, 0, false, ByteArray.empty, ByteArray.empty, 0, [], [], []⟩
def zeroT : Ty := ⟨0, 0, ByteArray.empty, [], []⟩
theorem zeroV_cells : zeroV.cells = [.lit (.int .i64 0), .lit (.int .i64 0), .lit (.int .i64 0), .lit (.bool false), .lit (.string ByteArray.empty), .lit (.string ByteArray.empty), .lit (.int .i64 0), .sl 5 [], .sl 1 [], .sl 10 []] := by rw [Val.cells_eq]; rfl
noncomputable def Val.fn (v : Val) : Bool := eqd v.k 5 || (eqd v.k 6 || eqd v.k 7)
theorem lenA37 (es : List (List AV)) : lenA E 37 (.sl 10 es) = some (es.length : Int) := (Eq.refl _).trans (by kernel_rfl)
theorem lenA9v (s : ByteArray) : lenA E 9 (.lit (.string s)) = some (s.size : Int) := (Eq.refl _).trans (by kernel_rfl)
theorem label_ne (a b : ByteArray) (n m : Int) : binAV E .neq 32 (.agg [.lit (.string a), .lit (.int .i64 n)]) (.agg [.lit (.string b), .lit (.int .i64 m)]) = some (.lit (.bool (!(eqd a b && eqd n m)))) := by
  have h : binAV E .neq 32 (.agg [.lit (.string a), .lit (.int .i64 n)]) (.agg [.lit (.string b), .lit (.int .i64 m)]) = some (.lit (.bool (!((a == b) && ((n == m) && true))))) := (Eq.refl _).trans (by kernel_rfl)
  rw [h, Bool.and_true]
  have : (a == b) = eqd a b := by
    rw [Bool.eq_iff_iff, eqd_iff]
    cases a with
    | mk x =>
      cases b with
      | mk y =>
        show (x == y) = true ↔ _
        rw [beq_iff_eq]
        exact ⟨fun e => by rw [e], fun e => by cases e; rfl⟩
  rw [this, int_eqd]

theorem fun177 (v : Val) (h : Heap) : evw E 177 [.agg v.cells] h = some (.ret (.lit (.bool v.fn)), h) := by
  refine evw_run primsC 0 rfl rfl rfl ?_
  rw [nf177]
  simp only [aggS, bind_some', Val.cells_len, b10, condT, Val.c0, bin_int, eqlE, boolB]
  unfold Val.fn
  cases eqd v.k 5 <;> cases eqd v.k 6 <;> cases eqd v.k 7 <;> rfl

noncomputable def Val.bareP (v : Val) : Bool :=
  bif !(eqd v.k 3) && !(eqd v.s ByteArray.empty) then false else
  bif !(eqd v.k 4) && decide ((v.labels.length : Int) > 0) then false else
  bif !(eqd v.k 6) && !(eqd v.df ByteArray.empty && eqd v.nd 0) then false else
  eqd v.k 7 || (eqd v.m 0 && !v.inn)
theorem bare71 (v : Val) (h : Heap) : evw E 71 [.agg v.cells] h = some (.ret (.lit (.bool v.bareP)), h) := by
  refine evw_run primsC 0 rfl rfl rfl ?_
  rw [nf71]
  simp only [aggS, bind_some', Val.cells_len, b10, condT, Val.c0, Val.c2, Val.c3, Val.c4, Val.c5, Val.c6, Val.c8, bin_int, bin_str, neS, neqE, eqlE, label_ne, lenA36, List.length_map, gtrI, boolB, notB]
  unfold Val.bareP
  generalize eqd v.s ByteArray.empty = e1
  generalize decide ((v.labels.length : Int) > 0) = e2
  generalize (eqd v.df ByteArray.empty && eqd v.nd 0) = e3
  generalize eqd v.m 0 = e4
  generalize v.inn = e5
  cases eqd v.k 3 <;> cases eqd v.k 4 <;> cases eqd v.k 6 <;> cases e1 <;> cases e2 <;> cases e3 <;> cases eqd v.k 7 <;> cases e4 <;> rfl

theorem fnT (t : Ty) (h : Heap) (ok : t.Ok) : evw E 178 [.agg t.cells] h = some (.ret (.lit (.bool (!(t.right && eqd t.k 7)))), h) := by
  have h179 : evw E 179 [.agg t.cells] h = some (.ret (.lit (.bool (t.right && eqd t.k 7))), h) := by
    refine evw_run primsC 0 rfl rfl rfl ?_
    rw [nf179]
    simp only [aggS, bind_some', Ty.cells_len, b5, condT, Ty.refold, pright_spec t h ok, onOut_ret, boolB]
    simp only [Ty.c0, bin_int, eqlE]
    cases t.right <;> rfl
  refine evw_run primsC 0 rfl rfl rfl ?_
  rw [nf178]
  simp only [aggS, bind_some', Ty.cells_len, b5, condT, Ty.refold, h179, onOut_ret, notB]

noncomputable def Val.aroundP (v : Val) (n : Int) : Bool := eqd (v.kids.length : Int) 1 && ((v.kids.headD zeroV).fn && (eqd (v.types.length : Int) n && !(v.types.any fun t => !(t.right && eqd t.k 7))))
theorem around130 (v : Val) (n : Int) (h : Heap) (ok : v.Ok) : evw E 130 [.agg v.cells, .lit (.int .i64 n)] h = some (.ret (.lit (.bool (v.aroundP n))), h) := by
  have h34 : evw E 34 [.sl 5 (v.types.map Ty.cells), .fn 178 [] []] h = some (.ret (.lit (.bool (v.types.any fun t => !(t.right && eqd t.k 7)))), h) := by
    refine any_spec (fun t => !(t.right && eqd t.k 7)) (.fn 178 [] []) h v.types ok.tlen fun a ha => ?_
    rw [applyS]
    exact fnT a h (ok.ty ha)
  refine evw_run primsC 0 rfl rfl rfl ?_
  rw [nf130]
  simp only [aggS, bind_some', Val.cells_len, b10, condT, Val.c7, Val.c9, lenA37, lenA35, List.length_map, bin_int, eqlE, boolB]
  unfold Val.aroundP
  cases e : eqd (v.kids.length : Int) 1 with
  | false => rfl
  | true =>
    have hl : v.kids.length = 1 := by have := eqd_iff.1 e; omega
    match hk : v.kids, hl with
    | [x], _ =>
      have := indexA_map [x] Val.cells 10 0 (by simp)
      rw [show ((0 : Nat) : Int) = 0 from rfl] at this
      rw [condT, this, bind_some', partA_full (Val.cells_len _), bind_some']
      show onOut (evw E 177 [.agg x.cells] h) _ _ _ = _
      rw [fun177, onOut_ret, boolB, bind_some']
      simp only [h34, onOut_ret, notB, bind_some', List.headD_cons, Bool.true_and]
      cases x.fn with
      | false => rfl
      | true =>
        rw [condT, Bool.true_and]
        cases eqd (v.types.length : Int) n <;> rfl

noncomputable def Val.none2 (v : Val) : Bool := eqd (v.types.length : Int) 0 && eqd (v.kids.length : Int) 0
noncomputable def Val.shapedP (v : Val) : Bool :=
  bif eqd v.k 1 then v.none2 else
  bif eqd v.k 2 then v.none2 && (eqd v.n 0 || eqd v.n 1) else
  bif eqd v.k 3 then v.none2 && (eqd v.n 0 && decide ((v.s.size : Int) ≤ 256)) else
  bif eqd v.k 5 then v.none2 && decide (v.n ≥ 0) else
  bif eqd v.k 4 then eqd (v.types.length : Int) 0 && (eqd v.n 0 && (eqd (v.kids.length : Int) (v.labels.length : Int) && risingR v.labels none)) else
  bif eqd v.k 8 then eqd (v.types.length : Int) 0 && (eqd (v.kids.length : Int) 1 && decide (v.n ≥ 0)) else
  bif eqd v.k 6 then v.aroundP 2 && eqd v.n 0 else
  bif eqd v.k 7 then v.aroundP 1 && (decide (v.n ≥ 0) && decide (v.m ≥ v.n)) else false
theorem shaped72 (v : Val) (h : Heap) (ok : v.Ok) : evw E 72 [.agg v.cells] h = some (.ret (.lit (.bool v.shapedP)), h) := by
  have a1 := fun n => around130 v n h ok
  refine evw_run primsC 0 rfl rfl rfl ?_
  rw [nf72]
  simp only [aggS, bind_some', Val.cells_len, b10, condT, Val.re, a1, prising_spec _ ok.lab, onOut_ret]
  simp only [Val.c0, Val.c1, Val.c2, Val.c4, Val.c7, Val.c8, Val.c9, lenA37, lenA35, lenA36, lenA9v, List.length_map, bin_int, eqlE, geqI, leqI, boolB, bind_some', prising_spec _ ok.lab, onOut_ret]
  unfold Val.shapedP Val.none2
  generalize v.aroundP 2 = e1
  generalize v.aroundP 1 = e2
  generalize decide (v.n ≥ 0) = e3
  generalize decide (v.m ≥ v.n) = e4
  generalize decide ((v.s.size : Int) ≤ 256) = e5
  generalize risingR v.labels none = e6
  generalize eqd (v.kids.length : Int) (v.labels.length : Int) = e7
  generalize eqd (v.kids.length : Int) 0 = e8
  generalize eqd (v.kids.length : Int) 1 = e9
  generalize eqd v.n 1 = e10
  generalize eqd v.n 0 = e11
  cases eqd v.k 1 with
  | true => cases eqd (v.types.length : Int) 0 <;> rfl
  | false =>
  cases eqd v.k 2 with
  | true => cases eqd (v.types.length : Int) 0 <;> cases e8 <;> cases e11 <;> rfl
  | false =>
  cases eqd v.k 3 with
  | true => cases eqd (v.types.length : Int) 0 <;> cases e8 <;> cases e11 <;> rfl
  | false =>
  cases eqd v.k 5 with
  | true => cases eqd (v.types.length : Int) 0 <;> cases e8 <;> rfl
  | false =>
  cases eqd v.k 4 with
  | true => cases eqd (v.types.length : Int) 0 <;> cases e11 <;> cases e7 <;> rfl
  | false =>
  cases eqd v.k 8 with
  | true => cases eqd (v.types.length : Int) 0 <;> cases e9 <;> rfl
  | false =>
  cases eqd v.k 6 with
  | true => cases eqd (v.types.length : Int) 0 <;> cases e1 <;> rfl
  | false =>
  cases eqd v.k 7 with
  | true => cases eqd (v.types.length : Int) 0 <;> cases e2 <;> cases e3 <;> rfl
  | false => cases eqd (v.types.length : Int) 0 <;> rfl

mutual
noncomputable def Val.rightP : Val → Bool
  | ⟨k, n, m, b, s, d, e, ts, ls, xs⟩ => Val.bareP ⟨k, n, m, b, s, d, e, ts, ls, xs⟩ && (Val.shapedP ⟨k, n, m, b, s, d, e, ts, ls, xs⟩ && Val.rightPL xs)
noncomputable def Val.rightPL : List Val → Bool
  | [] => true
  | x :: r => x.rightP && Val.rightPL r
end
theorem Val.rightPL_any : ∀ l : List Val, l.any (fun a => !a.rightP) = !Val.rightPL l
  | [] => by rw [Val.rightPL]; rfl
  | t :: r => by rw [List.any_cons, Val.rightPL, Val.rightPL_any r, Bool.not_and]
theorem Val.rightP_eq (v : Val) : v.rightP = (v.bareP && (v.shapedP && Val.rightPL v.kids)) := by cases v; rw [Val.rightP]

theorem anyV_spec (P : Val → Bool) (fv : AV) (H : Heap) (l : List Val) (hl : l.length ≤ maxLen) (hc : ∀ a ∈ l, applyV (evw E) fv [.agg a.cells] H = some (.ret (.lit (.bool (P a))), H)) : evw E 35 [.sl 10 (l.map Val.cells), fv] H = some (.ret (.lit (.bool (l.any P))), H) := by
  have hl : l.length ≤ 9223372036854775807 := hl
  have loop : ∀ (m i : Nat), i ≤ l.length → l.length < m + i → ∃ r : Int, Lp75_0 (evw E) (l.length + 1) H m H (.sl 10 (l.map Val.cells)) fv (.lit (.int .i64 (l.length : Int))) (.lit (.int .i64 (i : Int))) = some (.ret (.lit (.int .i64 r)), H) ∧ decide (r ≥ 0) = (l.drop i).any P := by
    intro m
    induction m with
    | zero => intro i h1 h2; omega
    | succ m ih =>
      intro i h1 h2
      rw [Lp75_0_succ, bin_int, lssI, bind_some', boolB, bind_some']
      by_cases hi : i < l.length
      · rw [ltT hi, condT, indexA_map _ _ _ _ hi, bind_some', partA_full (Val.cells_len _), bind_some', hc _ (List.getElem_mem hi), onOut_ret, boolB, bind_some', List.drop_eq_getElem_cons hi, List.any_cons]
        cases e : P l[i] with
        | true => exact ⟨i, by rw [condT], by rw [Bool.true_or]; simp⟩
        | false =>
          rw [condF, bin_int, addI, bind_some', incI (by omega), Bool.false_or]
          exact ih (i + 1) hi (by omega)
      · exact ⟨-1, by rw [ltF hi, condF], by rw [List.drop_of_length_le (by omega)]; rfl⟩
  obtain ⟨r, h1, h2⟩ := loop (l.length + 1) 0 (Nat.zero_le _) (by omega)
  rw [List.drop_zero] at h2
  have h166 : evw E 75 [.sl 10 (l.map Val.cells), fv] H = some (.ret (.lit (.int .i64 r)), H) := by
    refine evw_run primsC (l.length + 1) rfl rfl rfl ?_
    rw [nf75, lenA37, bind_some', List.length_map]
    exact h1
  refine evw_run primsC 0 rfl rfl rfl ?_
  rw [nf35, h166, onOut_ret, bin_int, geqI, bind_some', h2]

theorem vright33 : ∀ (v : Val) (h : Heap), v.Ok → evw E 33 [.agg v.cells] h = some (.ret (.lit (.bool v.rightP)), h)
  | v, h, ok => by
    have h35 : evw E 35 [.sl 10 (v.kids.map Val.cells), .fn 73 [] []] h = some (.ret (.lit (.bool (!Val.rightPL v.kids))), h) := by
      rw [← Val.rightPL_any]
      refine anyV_spec (fun a => !a.rightP) (.fn 73 [] []) h v.kids ok.len fun a ha => ?_
      obtain ⟨i, hi, rfl⟩ := List.mem_iff_getElem.1 ha
      have := vright33 v.kids[i] h (ok.kid ha)
      rw [applyS]
      show evw E 73 [.agg v.kids[i].cells] h = _
      refine evw_run primsC 0 rfl rfl rfl ?_
      rw [nf73]
      simp only [aggS, bind_some', Val.cells_len, b10, condT, Val.re, this, onOut_ret, notB]
    refine evw_run primsC 0 rfl rfl rfl ?_
    rw [nf33]
    simp only [aggS, bind_some', Val.cells_len, b10, condT, Val.re, bare71, shaped72 v h ok, onOut_ret, boolB]
    rw [Val.c9, h35, Val.rightP_eq]
    cases v.bareP with
    | false => rfl
    | true =>
      rw [condT]
      cases v.shapedP with
      | false => rfl
      | true => rw [condT, onOut_ret, notB, bind_some', Bool.not_not, Bool.true_and, Bool.true_and]
  termination_by v => SizeOf.sizeOf v
  decreasing_by exact Val.size_kid hi

/-- How large a value is: some number. -/
theorem much13 : ∀ (v : Val) (h : Heap), v.Ok → ∃ n : Int, evw E 13 [.agg v.cells] h = some (.ret (.lit (.int .i64 n)), h)
  | v, h, ok => by
    have hl : v.kids.length ≤ 9223372036854775807 := ok.len
    have htl : v.types.length ≤ 9223372036854775807 := ok.tlen
    have hrec : ∀ i (hi : i < v.kids.length), ∃ n : Int, evw E 13 [.agg (v.kids[i]).cells] h = some (.ret (.lit (.int .i64 n)), h) := fun i hi => much13 v.kids[i] h (ok.kid (List.getElem_mem hi))
    have l1 : ∀ (N : Nat) (c0 c1 c2 c3 c4 c5 c6 c7 c8 : AV) (m i : Nat) (acc : Int), i ≤ v.kids.length → v.kids.length < m + i → ∃ n : Int, Lp13_1 (evw E) N h m h c0 c1 c2 c3 c4 c5 c6 c7 c8 (.sl 10 (v.kids.map Val.cells)) (.lit (.int .i64 acc)) (.lit (.int .i64 (i : Int))) = some (.ret (.lit (.int .i64 n)), h) := by
      intro N c0 c1 c2 c3 c4 c5 c6 c7 c8 m
      induction m with
      | zero => intro i acc h1 h2; omega
      | succ m ih =>
        intro i acc h1 h2
        rw [Lp13_1_succ, lenA37, bind_some', bin_int, lssI, bind_some', boolB, bind_some', List.length_map]
        by_cases hi : i < v.kids.length
        · obtain ⟨n, hn⟩ := hrec i hi
          rw [ltT hi, condT, bin_int, lssI, bind_some', boolB, bind_some']
          cases decide (acc < 3000) with
          | false => exact ⟨acc, by rw [condF]⟩
          | true =>
            rw [condT, indexA_map _ _ _ _ hi, bind_some', partA_full (Val.cells_len _), bind_some', hn, onOut_ret, bin_int, addI, bind_some', bin_int, addI, bind_some', incI (by omega)]
            exact ih (i + 1) _ hi (by omega)
        · exact ⟨acc, by rw [ltF hi, condF]⟩
    have l0 : ∀ (N : Nat) (_ : v.kids.length < N) (c0 c1 c2 c3 c4 c5 c6 c8 : AV) (m i : Nat) (acc : Int), i ≤ v.types.length → v.types.length < m + i → ∃ n : Int, Lp13_0 (evw E) N h m h c0 c1 c2 c3 c4 c5 c6 (.sl 5 (v.types.map Ty.cells)) c8 (.sl 10 (v.kids.map Val.cells)) (.lit (.int .i64 acc)) (.lit (.int .i64 (i : Int))) = some (.ret (.lit (.int .i64 n)), h) := by
      intro N hN c0 c1 c2 c3 c4 c5 c6 c8 m
      have fin : ∀ acc : Int, ∃ n : Int, Lp13_1 (evw E) N h N h c0 c1 c2 c3 c4 c5 c6 (.sl 5 (v.types.map Ty.cells)) c8 (.sl 10 (v.kids.map Val.cells)) (.lit (.int .i64 acc)) (.lit (.int .i64 0)) = some (.ret (.lit (.int .i64 n)), h) := fun acc => l1 N _ _ _ _ _ _ _ _ _ N 0 acc (Nat.zero_le _) (by omega)
      induction m with
      | zero => intro i acc h1 h2; omega
      | succ m ih =>
        intro i acc h1 h2
        rw [Lp13_0_succ, lenA35, bind_some', bin_int, lssI, bind_some', boolB, bind_some', List.length_map]
        by_cases hi : i < v.types.length
        · rw [ltT hi, condT, bin_int, lssI, bind_some', boolB, bind_some']
          cases decide (acc < 3000) with
          | false => rw [condF]; exact fin acc
          | true =>
            rw [condT, indexA_map _ _ _ _ hi, bind_some', partA_full (Ty.cells_len _), bind_some', much_spec _ _ (ok.ty (List.getElem_mem hi)), onOut_ret, bin_int, addI, bind_some', bin_int, addI, bind_some', incI (by omega)]
            exact ih (i + 1) _ hi (by omega)
        · rw [ltF hi, condF]; exact fin acc
    obtain ⟨n, hn⟩ := l0 (v.types.length + v.kids.length + 1) (by omega) (.lit (.int .i64 v.k)) (.lit (.int .i64 v.n)) (.lit (.int .i64 v.m)) (.lit (.bool v.inn)) (.lit (.string v.s)) (.lit (.string v.df)) (.lit (.int .i64 v.nd)) (.sl 1 (v.labels.map strC)) (v.types.length + v.kids.length + 1) 0 (add64 (add64 (add64 1 ((IntKind.i64.wrap ((v.s.size : Int).tdiv 8)))) (v.labels.length : Int)) (IntKind.i64.wrap ((v.df.size : Int).tdiv 8))) (Nat.zero_le _) (by omega)
    refine ⟨n, evw_run primsC (v.types.length + v.kids.length + 1) rfl rfl rfl ?_⟩
    have q : ∀ x : Int, binAV E .quo 3 (.lit (.int .i64 x)) (.lit (.int .i64 8)) = some (.lit (.int .i64 (IntKind.i64.wrap (x.tdiv 8)))) := fun x => by rw [bin_int]; rfl
    rw [nf13]
    simp only [aggS, bind_some', Val.cells_len, b10, condT, Val.c0, Val.c1, Val.c2, Val.c3, Val.c4, Val.c5, Val.c6, Val.c7, Val.c8, Val.c9, lenA9v, lenA36, List.length_map, q]
    simp only [bin_int, addI, bind_some']
    exact hn
  termination_by v => SizeOf.sizeOf v
  decreasing_by exact Val.size_kid hi
end Go.Sh.T

/- CoreSame; the readings of values and terms. -/
namespace Go.Sh.T
open Go Go.Sh
set_option linter.unusedSimpArgs false
set_option linter.unusedVariables false
set_option maxRecDepth 100000

theorem ty4 : E.ty 4 = some ti4 := by kernel_rfl
theorem ty37 : E.ty 37 = some ti37 := by kernel_rfl
theorem ty39 : E.ty 39 = some ti39 := by kernel_rfl
theorem ty32' : E.ty 32 = some ti32 := by kernel_rfl

theorem bool_of {t : TypeId} {vs : List AV} (h : TypedC E t vs) (e : E.ty t = some ti4) : ∃ b, vs = [.lit (.bool b)] := by
  cases h with
  | bool h hd b => exact ⟨b, rfl⟩
  | int h hd hw => rw [e] at h; cases h; cases hd
  | str h hd hs => rw [e] at h; cases h; cases hd
  | sl h hd hj hl hes => rw [e] at h; cases h; cases hd
  | struct h hd hf => rw [e] at h; cases h; cases hd

theorem at_of {vs : List AV} (h : TypedC E 32 vs) : ∃ (s : ByteArray) (n : Int), vs = [.lit (.string s), .lit (.int .i64 n)] ∧ s.size ≤ maxLen ∧ (Lit.int .i64 n).wf = true := by
  cases h with
  | bool h hd b => rw [ty32'] at h; cases h; cases hd
  | int h hd hw => rw [ty32'] at h; cases h; cases hd
  | str h hd hs => rw [ty32'] at h; cases h; cases hd
  | sl h hd hj hl hes => rw [ty32'] at h; cases h; cases hd
  | struct h hd hf =>
    rw [ty32'] at h; cases h; cases hd
    cases hf with
    | cons h1 hf =>
    cases hf with
    | cons h2 hf =>
    cases hf
    obtain ⟨s, rfl, hs⟩ := str_of h1 ty9
    obtain ⟨n, rfl, hn⟩ := int_of h2 ty3
    exact ⟨s, n, rfl, hs, hn⟩

theorem types_of {vs : List AV} (h : TypedC E 35 vs) : ∃ l : List Ty, vs = [.sl 5 (l.map Ty.cells)] ∧ l.length ≤ maxLen ∧ ∀ s ∈ l, s.Ok := by
  cases h with
  | bool h hd b => rw [ty35] at h; cases h; cases hd
  | int h hd hw => rw [ty35] at h; cases h; cases hd
  | str h hd hs => rw [ty35] at h; cases h; cases hd
  | struct h hd hf => rw [ty35] at h; cases h; cases hd
  | sl h hd hj hl hes =>
    rw [ty35] at h; cases h; cases hd
    rw [ty43] at hj; cases hj
    obtain ⟨l, rfl, hs⟩ := tys_of hes
    exact ⟨l, rfl, by simpa using hl, hs⟩

theorem val_fuel : ∀ n : Nat, (∀ vs : List AV, SizeOf.sizeOf vs < n → TypedC E 39 vs → ∃ x : Val, vs = x.cells ∧ x.Ok) ∧ (∀ es : List (List AV), SizeOf.sizeOf es < n → TypedE E 39 es → ∃ l : List Val, es = l.map Val.cells ∧ ∀ x ∈ l, x.Ok)
  | 0 => ⟨fun _ h => by omega, fun _ h => by omega⟩
  | n + 1 => by
    obtain ⟨ihC, ihE⟩ := val_fuel n
    refine ⟨fun vs hlt h => ?_, fun es hlt h => ?_⟩
    · cases h with
      | bool h hd b => rw [ty39] at h; cases h; cases hd
      | int h hd hw => rw [ty39] at h; cases h; cases hd
      | str h hd hs => rw [ty39] at h; cases h; cases hd
      | sl h hd hj hl hes => rw [ty39] at h; cases h; cases hd
      | struct h hd hf =>
        rw [ty39] at h; cases h; cases hd
        cases hf with
        | cons h1 hf =>
        cases hf with
        | cons h2 hf =>
        cases hf with
        | cons h3 hf =>
        cases hf with
        | cons h4 hf =>
        cases hf with
        | cons h5 hf =>
        cases hf with
        | cons h6 hf =>
        cases hf with
        | cons h7 hf =>
        cases hf with
        | cons h8 hf =>
        cases hf with
        | cons h9 hf =>
        cases hf
        obtain ⟨k, rfl, hk⟩ := int_of h1 ty3
        obtain ⟨m, rfl, hn⟩ := int_of h2 ty3
        obtain ⟨q, rfl, hq⟩ := int_of h3 ty3
        obtain ⟨b, rfl⟩ := bool_of h4 ty4
        obtain ⟨s, rfl, hs⟩ := str_of h5 ty9
        obtain ⟨d, e, rfl, hd, he⟩ := at_of h6
        obtain ⟨ts, rfl, htl, hts⟩ := types_of h7
        obtain ⟨ls, rfl, hl, hls⟩ := labels_of h8
        cases h9 with
        | bool h hd b => rw [ty37] at h; cases h; cases hd
        | int h hd hw => rw [ty37] at h; cases h; cases hd
        | str h hd hs => rw [ty37] at h; cases h; cases hd
        | struct h hd hf => rw [ty37] at h; cases h; cases hd
        | sl h hd' hj hl9 hes =>
          rw [ty37] at h; cases h; cases hd'
          rw [ty39] at hj; cases hj
          obtain ⟨xs, rfl, hx⟩ := ihE _ (by
            simp only [strC, List.flatten_cons, List.flatten_nil, List.cons_append, List.nil_append, List.cons.sizeOf_spec, AV.sl.sizeOf_spec] at hlt
            omega) hes
          exact ⟨⟨k, m, q, b, s, d, e, ts, ls, xs⟩, by rw [Val.cells_eq]; rfl, .mk hs hd htl hts hl hls (by simpa using hl9) hx⟩
    · cases h with
      | nil => exact ⟨[], rfl, fun _ h => by cases h⟩
      | cons h hr =>
        simp only [List.cons.sizeOf_spec] at hlt
        obtain ⟨x, rfl, hx⟩ := ihC _ (by omega) h
        obtain ⟨l, rfl, hl⟩ := ihE _ (by omega) hr
        exact ⟨x :: l, rfl, fun y hy => by
          rcases List.mem_cons.1 hy with e | e
          · rw [e]; exact hx
          · exact hl y e⟩
theorem val_of {vs : List AV} (h : TypedC E 39 vs) : ∃ x : Val, vs = x.cells ∧ x.Ok := (val_fuel _).1 vs (Nat.lt_succ_self _) h
end Go.Sh.T

/- MachNone: what is not there is wrong at once. -/
namespace Go.Sh.T
open Go Go.Sh
set_option linter.unusedSimpArgs false
set_option linter.unusedVariables false
set_option maxRecDepth 100000
theorem awake15 : evw E 15 [] [] = some (.ret (.lit (.bool true)), []) := (evw_iff primsC).2 ⟨60, by kernel_rfl⟩
theorem right17 : evw E 17 [.sl 19 []] [] = some (.ret (.lit (.bool true)), []) := (evw_iff primsC).2 ⟨9, by kernel_rfl⟩
def outW : List AV := [.lit (.int .i64 5), .lit (.int .i64 0), .lit (.int .i64 0), .lit (.string ByteArray.empty), .lit (.string ByteArray.empty), .lit (.int .i64 0), .lit (.int .i64 0)]
def machB (r : AV) (k : Int) (b : Bool) : List Cell := [.v (.sl 19 []), .own 12 [], .own 13 [], .v (.lit (.slice none 0 0)), .v (.lit (.int .i64 0)), .v (.lit (.int .i64 0)), .v (.lit (.int .i64 0)), .v (.lit (.bool false)), .v (.lit (.string ByteArray.empty)), .v (.lit (.string ByteArray.empty)), .v (.lit (.int .i64 0)), .own 5 [], .own 1 [], .own 11 [], .own 10 [], .v (.lit (.pointer none)), .v (.lit (.int .i64 0)), .v (.lit (.int .i64 0)), .v (.lit (.int .i64 0)), .v (.lit (.bool false)), .v (.lit (.string ByteArray.empty)), .v (.lit (.string ByteArray.empty)), .v (.lit (.int .i64 0)), .own 5 [], .own 1 [], .own 10 [], .v (.lit (.bool false)), .v r, .v (.lit (.int .i64 k)), .v (.lit (.int .i64 0)), .v (.lit (.int .i64 0)), .v (.lit (.string ByteArray.empty)), .v (.lit (.string ByteArray.empty)), .v (.lit (.int .i64 0)), .v (.lit (.int .i64 0)), .v (.lit (.bool b))]
theorem call39 (s : ByteArray) (x y : List AV) (n : Value) : evw E 39 [.hp 0 0, .lit (.string s), .sl 5 [x], .sl 10 [y], .agg [.lit (.string s), .lit (.int .i64 0)]] [machB (.lit n) 0 false] = some (.ret (.tup []), [machB (.lit n) 5 true, [.v (.hp 0 0)]]) := (evw_iff primsC).2 ⟨12, by kernel_rfl⟩
theorem play40 (n : Value) : evw E 40 [.hp 0 0] [machB (.lit n) 5 true, [.v (.hp 0 0)]] = some (.ret (.agg zeroV.cells), [machB (.lit n) 5 true, [.v (.hp 0 0)]]) := by rw [zeroV_cells]; exact (evw_iff primsC).2 ⟨12, by kernel_rfl⟩
end Go.Sh.T

/- MachNone: the law. -/
namespace Go.Sh.T
open Go Go.Sh
set_option linter.unusedSimpArgs false
set_option linter.unusedVariables false
set_option maxRecDepth 100000
theorem odd37 (t : Ty) (h : Heap) (ok : t.Ok) : evw E 37 [.agg t.cells] h = some (.ret (.lit (.bool (!t.right))), h) := by
  refine evw_run primsC 0 rfl rfl rfl ?_
  rw [nf37]
  simp only [aggS, bind_some', Ty.cells_len, b5, condT, Ty.refold, pright_spec t h ok, onOut_ret, notB]
theorem odd38 (t : Val) (h : Heap) (ok : t.Ok) : evw E 38 [.agg t.cells] h = some (.ret (.lit (.bool (!t.rightP))), h) := by
  refine evw_run primsC 0 rfl rfl rfl ?_
  rw [nf38]
  simp only [aggS, bind_some', Val.cells_len, b10, condT, Val.re, vright33 t h ok, onOut_ret, notB]
theorem maxN (n : Int) : maxs (.lit (.int .i64 n)) [.lit (.int .i64 0)] = some (.lit (.int .i64 (if 0 > n then 0 else n))) := (Eq.refl _).trans rfl
theorem minN (n : Int) : mins (.lit (.int .i64 n)) [.lit (.int .i64 65536)] = some (.lit (.int .i64 (if 65536 < n then 65536 else n))) := (Eq.refl _).trans rfl
theorem oneL (v : Value) : AV.one (.lit v) = true := (Eq.refl _).trans rfl
theorem oneS (n : Nat) (l : List (List AV)) : AV.one (.sl n l) = true := (Eq.refl _).trans rfl
def tupW : AV := .tup [.agg outW, .agg [.lit (.int .i64 0), .lit (.int .i64 0), .lit (.int .i64 0), .lit (.bool false), .lit (.string ByteArray.empty), .lit (.string ByteArray.empty), .lit (.int .i64 0), .sl 5 [], .sl 1 [], .sl 10 []]]
theorem trunc16' : trunc (E.hint 16) [] (.ret tupW) [] = some (.ret tupW, []) := by kernel_rfl
theorem trunc16'' (h : Heap) : trunc (E.hint 16) [] (.ret tupW) h = some (.ret tupW, []) := by
  have hb : ((E.hint 16).hb.isEmpty || (E.hint 16).esc) = false := (Eq.refl _).trans (by kernel_rfl)
  rw [trunc_of hb ⟨(show Out.lt ([] : Heap).length (.ret tupW) from ltA_ok (by kernel_rfl)), Nat.zero_le _, .inl rfl⟩]
  rfl
theorem part28 (r : AV) (l : Heap) : hpart true 7 28 0 (machB r 5 true :: l) = some (.agg outW) := (Eq.refl _).trans rfl
theorem call16 (s : ByteArray) (n : Int) (v : Val) (ov : v.Ok) (t : Ty) (ot : t.Ok) :
    evw E 16 [.sl 19 [], .lit (.string s), .sl 5 [t.cells], .sl 10 [v.cells], .lit (.int .i64 n)] [] = some (.ret tupW, []) := by
  have h34 : evw E 34 [.sl 5 [t.cells], .fn 37 [] []] [] = some (.ret (.lit (.bool (!t.right))), []) := by
    have := any_spec (fun a => !a.right) (.fn 37 [] []) [] [t] (Nat.le_of_ble_eq_true (by kernel_rfl)) fun a ha => by
      rw [applyS]; obtain rfl := List.mem_singleton.1 ha; exact odd37 a [] ot
    rw [List.any_cons, List.any_nil, Bool.or_false] at this
    exact this
  have h35 : evw E 35 [.sl 10 [v.cells], .fn 38 [] []] [] = some (.ret (.lit (.bool (!v.rightP))), []) := by
    have := anyV_spec (fun a => !a.rightP) (.fn 38 [] []) [] [v] (Nat.le_of_ble_eq_true (by kernel_rfl)) fun a ha => by
      rw [applyS]; obtain rfl := List.mem_singleton.1 ha; exact odd38 a [] ov
    rw [List.any_cons, List.any_nil, Bool.or_false] at this
    exact this
  refine evw_run primsC 0 rfl rfl rfl ?_
  rw [nf16]
  rw [right17, onOut_ret, notB, bind_some', boolB, bind_some', Bool.not_true, condF, h34, onOut_ret, boolB, bind_some']
  cases t.right with
  | false => rw [Bool.not_false, condT]; exact trunc16'
  | true =>
    rw [Bool.not_true, condF, h35, onOut_ret, boolB, bind_some']
    cases v.rightP with
    | false => rw [Bool.not_false, condT]; exact trunc16'
    | true =>
      rw [Bool.not_true, condF, maxN, bind_some', minN, bind_some', oneL, condT, oneL, condT]
      generalize (if 65536 < (if 0 > n then 0 else n) then (65536 : Int) else (if 0 > n then 0 else n)) = q
      rw [oneS, condT]
      have hc := call39 s t.cells v.cells (.int .i64 q)
      have hp := play40 (.int .i64 q)
      show onOut (evw E 39 [.hp 0 0, .lit (.string s), .sl 5 [t.cells], .sl 10 [v.cells], .agg [.lit (.string s), .lit (.int .i64 0)]] [machB (.lit (.int .i64 q)) 0 false]) (fun a13 h14 => onOut (evw E 40 [.hp 0 0] h14) (fun a15 h16 => (aggOf a15).bind fun l17 => cond (Nat.beq l17.length 10) ((hpart true 7 28 0 h16).bind fun v18 => _) none) (fun _ _ _ => none) (fun _ _ => none)) (fun _ _ _ => none) (fun _ _ => none) = _
      rw [hc, onOut_ret, hp, onOut_ret, aggS, bind_some', Val.cells_len, b10, condT, part28, bind_some', zeroV_cells]
      exact trunc16'' _
theorem machNone_row (s : ByteArray) (_ : s.size ≤ maxLen) (n : Int) (_ : (Lit.int .i64 n).wf = true) (v : Val) (ov : v.Ok) (t : Ty) (ot : t.Ok) (_ : List Nat) :
    evw E 5 [.lit (.string s), .lit (.int .i64 n), .agg v.cells, .agg t.cells] [] = some (.ret (.lit (.bool true)), []) := by
  obtain ⟨q, h13⟩ := much13 v [] ov
  have hc := call16 s n v ov t ot
  refine evw_run primsC 0 rfl rfl rfl ?_
  rw [nf5]
  rw [aggS, bind_some', Val.cells_len, b10, condT, aggS, bind_some', Ty.cells_len, b5, condT, Val.re, h13, onOut_ret, bin_int, gtrI, bind_some', boolB, bind_some', Ty.refold, much_spec t [] ot]
  cases decide (q > 100) with
  | true => rw [condT, awake15, onOut_ret]
  | false =>
    rw [condF, onOut_ret, bin_int, gtrI, bind_some', boolB, bind_some']
    cases decide (t.much > 100) with
    | true => rw [condT, awake15, onOut_ret]
    | false =>
      rw [condF, lenA9v, bind_some', bin_int, gtrI, bind_some', boolB, bind_some']
      cases decide ((s.size : Int) > 100) with
      | true => rw [condT, awake15, onOut_ret]
      | false =>
        rw [condF, hc, onOut_ret, right17]
        refine Eq.trans (b := onOut (evw E 15 [] []) (fun a h => some (.ret a, h)) (fun _ _ _ => none) (fun _ _ => none)) (by kernel_rfl) ?_
        rw [awake15, onOut_ret]
end Go.Sh.T

/- The listed package-level variables, as the shadow asks for them. -/
namespace Go.Sh
open Go Go.Proofs Go.Proofs.YtbnilhjddpmodaaGreatDoor
theorem rep_nums {S : Nat → Nat} {w : World} {μ : List Nat} : ∀ l : List Int, RepC S w μ (numC l) (l.map fun z => Value.int .i64 z)
  | [] => .nil
  | _ :: r => .cons (.lit rfl) rfl (rep_nums r)
theorem ro_of {P : Program} {W : World} {name : String} {g : Nat} {l : List Int} (hg : P.globalNamed name = some g) (h : Lib.TabIs P W name .i64 l) : RepA (sealAll W).S W [] (.ro (numC l)) (.pointer (some ⟨g, 0, none⟩)) := by
  unfold Lib.TabIs World.var? at h
  rw [hg, Option.bind_some] at h
  split at h
  · rename_i cs T fz hc
    have h := Option.some.inj h
    have hl : cs.size = l.length := by rw [h]; simp
    have hn : (numC l).length = l.length := by unfold numC; simp
    refine .ro (vals := l.map fun z => Value.int .i64 z) ?_ (rep_nums l) ?_
    · unfold row?
      rw [hc, hn, h]
      simp
      exact List.take_of_length_le (by simp)
    · show 0 + (numC l).length ≤ (match W.heap[g]? with | some (.cells arr _ _) => arr.size | _ => 0)
      rw [hc, hn]
      show 0 + l.length ≤ cs.size
      omega
  · cases h
theorem globs_of {W : World} (h : laidMetH Tryz.prog [("limbeck/prim.takes", Rows.laid_limbeck_prim_takes), ("limbeck/obs.seen", Rows.laid_limbeck_obs_seen)] W) : GlobsOk (sealAll W) W := by
  have h : laidMet Tryz.prog [("limbeck/prim.takes", Rows.laid_limbeck_prim_takes), ("limbeck/obs.seen", Rows.laid_limbeck_obs_seen)] W := h
  have t0 : Lib.TabIs Tryz.prog W "limbeck/prim.takes" .i64 [0, 1, 1, 1, 1, 3, 1, 1] :=
    Lib.tabIs_of_head (rest := [("limbeck/obs.seen", Rows.laid_limbeck_obs_seen)]) (g := 1) (t := 266) (e := 3) (n := 8) (by kernel_rfl) (by kernel_rfl) Tryz.underlying266 Tryz.underlying3 (by kernel_rfl) (by kernel_rfl) h
  have t1 : Lib.TabIs Tryz.prog W "limbeck/obs.seen" .i64 [0, 1, 2, 3, 5, 4, 4, 4, 0] :=
    Lib.tabIs_of_head (rest := []) (g := 0) (t := 155) (e := 3) (n := 9) (by kernel_rfl) (by kernel_rfl) Tryz.underlying155 Tryz.underlying3 (by kernel_rfl) (by kernel_rfl) (Go.laidMet.tail h)
  intro g l hgl
  have g0 : Tryz.prog.globalNamed "limbeck/obs.seen" = some 0 := by kernel_rfl
  have g1 : Tryz.prog.globalNamed "limbeck/prim.takes" = some 1 := by kernel_rfl
  unfold globs at hgl
  split at hgl
  · cases hgl; exact ro_of g0 t1
  · cases hgl; exact ro_of g1 t0
  · cases hgl
end Go.Sh

/- What a row leans on. -/
namespace Go.Sh.T
open Go Go.Sh Go.Proofs
set_option linter.unusedSimpArgs false
set_option linter.unusedVariables false
theorem str_of' {vs : List AV} (h : TypedC E 9 vs) : ∃ s, vs = [.lit (.string s)] ∧ s.size ≤ maxLen := str_of h ty9
theorem int_of' {vs : List AV} (h : TypedC E 3 vs) : ∃ n, vs = [.lit (.int .i64 n)] ∧ (Lit.int .i64 n).wf = true := int_of h ty3
def flatTs : List Nat := [3, 4, 9, 32, 35, 36, 37, 39, 43]
theorem flatTs_ok : flatAll E flatTs = true := by kernel_rfl

mutual
theorem dsz_le {H : Type} : ∀ d : DataW H, dsz d ≤ YtbnilhjddpmodaaGreatDoor.Rows.uptoBulk d
  | .lit l => by cases l <;> simp [dsz, YtbnilhjddpmodaaGreatDoor.Rows.uptoBulk]
  | .nil => by simp [dsz, YtbnilhjddpmodaaGreatDoor.Rows.uptoBulk]
  | .ptr d => by simp [dsz, YtbnilhjddpmodaaGreatDoor.Rows.uptoBulk]
  | .slice e s => by have := dszL_le e; simp only [dsz, YtbnilhjddpmodaaGreatDoor.Rows.uptoBulk]; omega
  | .agg p => by have := dszL_le p; simp only [dsz, YtbnilhjddpmodaaGreatDoor.Rows.uptoBulk]; omega
  | .iface _ d => by simp [dsz, YtbnilhjddpmodaaGreatDoor.Rows.uptoBulk]
  | .map _ => by simp [dsz, YtbnilhjddpmodaaGreatDoor.Rows.uptoBulk]
  | .held _ => by simp [dsz, YtbnilhjddpmodaaGreatDoor.Rows.uptoBulk]
theorem dszL_le {H : Type} : ∀ l : List (DataW H), dszL l ≤ YtbnilhjddpmodaaGreatDoor.Rows.uptoBulkAll l
  | [] => by simp [dszL, YtbnilhjddpmodaaGreatDoor.Rows.uptoBulkAll]
  | d :: r => by have := dsz_le d; have := dszL_le r; simp only [dszL, YtbnilhjddpmodaaGreatDoor.Rows.uptoBulkAll]; omega
end
end Go.Sh.T
