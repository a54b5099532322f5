/- CkE: part of the proof: a shadow of the machine that is proved sound, and what the functions of this seat compute. Conditions: none. -/
import Derived.Test.YtgjjdaillajgbaaCkD
/- Casts: the small functions of the program and of the reference. -/
namespace Go.Sh.T
open Go Go.Sh
set_option linter.unusedSimpArgs false
set_option linter.unusedVariables false
set_option maxRecDepth 100000

theorem onOut_pan {ρ : Type} (a : AV) (h : Heap) (k1 : AV → Heap → Option ρ) (k2 : Nat → List (List AV) → Heap → Option ρ) (k3 : AV → Heap → Option ρ) : onOut (some (.pan a, h)) k1 k2 k3 = k3 a h := (Eq.refl _).trans rfl
theorem b5 : Nat.beq 5 5 = true := rfl
theorem b10 : Nat.beq 10 10 = true := rfl
theorem b2 (x y : AV) : Nat.beq ([x, y] : List AV).length 2 = true := (Eq.refl _).trans rfl
theorem g0 (x y : AV) : ([x, y] : List AV).getD 0 .dead = x := (Eq.refl _).trans rfl
theorem g1 (x y : AV) : ([x, y] : List AV).getD 1 .dead = y := (Eq.refl _).trans rfl
theorem t20 (x y : AV) : ([x, y] : List AV)[0]? = some x := (Eq.refl _).trans rfl
theorem t21 (x y : AV) : ([x, y] : List AV)[1]? = some y := (Eq.refl _).trans rfl
theorem eqlE (a b : Int) : intBin .eql .i64 a b = some (.lit (.bool (eqd a b))) := by rw [eqlI, int_eqd]
theorem neqE (a b : Int) : intBin .neq .i64 a b = some (.lit (.bool (!(eqd a b)))) := by rw [neqI, int_ne]

def zeroV : Val := ⟨0, 0, 0, false, ByteArray.empty, ByteArray.empty, 0, [], [], []⟩
def zeroT : Ty := ⟨0, 0, ByteArray.empty, [], []⟩
def dynT : Ty := ⟨5, 0, ByteArray.empty, [], []⟩
def unkT : Ty := ⟨7, 0, ByteArray.empty, [], [dynT, dynT]⟩
theorem zeroV_cells : zeroV.cells = [.lit (.int .i64 0), .lit (.int .i64 0), .lit (.int .i64 0), .lit (.bool false), .lit (.string ByteArray.empty), .lit (.string ByteArray.empty), .lit (.int .i64 0), .sl 5 [], .sl 1 [], .sl 10 []] := by rw [Val.cells_eq]; rfl
theorem zeroT_cells : zeroT.cells = [.lit (.int .i64 0), .lit (.int .i64 0), .lit (.string ByteArray.empty), .sl 1 [], .sl 5 []] := by rw [Ty.cells_eq]; rfl
theorem dynT_cells : dynT.cells = [.lit (.int .i64 5), .lit (.int .i64 0), .lit (.string ByteArray.empty), .sl 1 [], .sl 5 []] := by rw [Ty.cells_eq]; rfl
theorem unkT_cells : unkT.cells = [.lit (.int .i64 7), .lit (.int .i64 0), .lit (.string ByteArray.empty), .sl 1 [], .sl 5 [dynT.cells, dynT.cells]] := by rw [Ty.cells_eq]; rfl
theorem dynT_ok : dynT.Ok := .mk (show (Lit.int .i64 5).wf = true by decide) (show (Lit.int .i64 0).wf = true by decide) (Nat.zero_le _) (Nat.zero_le _) (fun _ h => by cases h) (Nat.zero_le _) (fun _ h => by cases h)
theorem unkT_ok : unkT.Ok := .mk (show (Lit.int .i64 7).wf = true by decide) (show (Lit.int .i64 0).wf = true by decide) (Nat.zero_le _) (Nat.zero_le _) (fun _ h => by cases h) (show 2 ≤ maxLen by decide) (fun x h => by
  have : x = dynT := by simpa [unkT] using h
  rw [this]; exact dynT_ok)

noncomputable def Val.fn (v : Val) : Bool := eqd v.k 5 || (eqd v.k 6 || eqd v.k 7)
noncomputable def Ty.loose (t : Ty) : Bool := eqd t.k 5 || eqd t.k 4

theorem fun118 (v : Val) (h : Heap) : evw E 118 [.agg v.cells] h = some (.ret (.lit (.bool v.fn)), h) := by
  refine evw_run primsC 0 rfl rfl rfl ?_
  rw [nf118]
  simp only [aggS, bind_some', Val.cells_len, b10, condT, Val.c0, bin_int, eqlE, boolB]
  unfold Val.fn
  cases eqd v.k 5 <;> cases eqd v.k 6 <;> cases eqd v.k 7 <;> rfl
theorem fun119 (v : Val) (h : Heap) : evw E 119 [.agg v.cells] h = some (.ret (.lit (.bool v.fn)), h) := by
  refine evw_run primsC 0 rfl rfl rfl ?_
  rw [nf119]
  simp only [aggS, bind_some', Val.cells_len, b10, condT, Val.c0, bin_int, eqlE, boolB]
  unfold Val.fn
  cases eqd v.k 5 <;> cases eqd v.k 6 <;> cases eqd v.k 7 <;> rfl
theorem loose147 (v : Ty) (h : Heap) : evw E 147 [.agg v.cells] h = some (.ret (.lit (.bool v.loose)), h) := by
  refine evw_run primsC 0 rfl rfl rfl ?_
  rw [nf147]
  simp only [aggS, bind_some', Ty.cells_len, b5, condT, Ty.c0, bin_int, eqlE, boolB]
  unfold Ty.loose
  cases eqd v.k 5 <;> rfl
theorem dyn68 (h : Heap) : evw E 68 [] h = some (.ret (.agg dynT.cells), h) := by
  refine evw_run primsC 0 rfl rfl rfl ?_
  rw [nf68, dynT_cells]
theorem dyn121 (h : Heap) : evw E 121 [] h = some (.ret (.agg dynT.cells), h) := by
  refine evw_run primsC 0 rfl rfl rfl ?_
  rw [nf121, dynT_cells]
theorem fun120 (a b : Ty) (h : Heap) : evw E 120 [.agg a.cells, .agg b.cells] h = some (.ret (.agg [.lit (.int .i64 7), .lit (.int .i64 0), .lit (.string ByteArray.empty), .sl 1 [], .sl 5 [a.cells, b.cells]]), h) := by
  refine evw_run primsC 0 rfl rfl rfl ?_
  rw [nf120]
  simp only [aggS, bind_some', Ty.cells_len, b5, condT, Ty.refold]
theorem unk63 (h : Heap) : evw E 63 [] h = some (.ret (.agg unkT.cells), h) := by
  refine evw_run primsC 0 rfl rfl rfl ?_
  rw [nf63, unkT_cells]
  simp only [dyn121, onOut_ret, fun120, aggS, bind_some']
  rfl
/- what comes: a value, or a label -/
inductive Got where
  | ok (v : Val)
  | bl (s : ByteArray) (n : Int)
abbrev labA (s : ByteArray) (n : Int) : AV := .agg [.lit (.string s), .lit (.int .i64 n)]
def Got.out : Got → Out
  | .ok v => .ret (.agg v.cells)
  | .bl s n => .pan (.ifc 110 (labA s n))
def Got.cells : Got → List AV
  | .ok v => v.cells ++ [.lit (.string ByteArray.empty), .lit (.int .i64 0), .lit (.bool true)]
  | .bl s n => zeroV.cells ++ [.lit (.string s), .lit (.int .i64 n), .lit (.bool false)]
theorem Got.cells_len (g : Got) : g.cells.length = 13 := by cases g <;> simp [Got.cells]

theorem blame149 (s : ByteArray) (n : Int) (h : Heap) : evw E 149 [labA s n] h = some ((Got.bl s n).out, h) := by
  refine evw_run primsC 0 rfl rfl rfl ?_
  rw [nf149]
  simp only [aggS, bind_some', b2, condT, g0, g1]; rfl
theorem must148 (v : Val) (k : Int) (s : ByteArray) (n : Int) (h : Heap) : evw E 148 [.agg v.cells, .lit (.int .i64 k), labA s n] h = some ((bif eqd v.k k then Got.ok v else .bl s n).out, h) := by
  refine evw_run primsC 0 rfl rfl rfl ?_
  rw [nf148]
  simp only [aggS, bind_some', Val.cells_len, b10, b2, condT, g0, g1, Val.re]
  simp only [Val.c0, bin_int, bind_some', neqE, boolB, blame149, Got.out, onOut_pan]
  cases eqd v.k k <;> rfl
/- fields -/
def ix : List ByteArray → ByteArray → Option Nat
  | [], _ => none
  | x :: r, s => bif strEq x s then some 0 else (ix r s).map (· + 1)
theorem idxR_ix : ∀ (l : List ByteArray) (k : Nat) (s : ByteArray), idxR l k s = match ix l s with | some i => ((k + i : Nat) : Int) | none => -1
  | [], k, s => by rw [idxR, ix]
  | x :: r, k, s => by
    rw [idxR, ix]
    cases strEq x s with
    | true => rfl
    | false =>
      rw [cond_false, cond_false, show ((k : Int) + 1) = ((k + 1 : Nat) : Int) from rfl, idxR_ix r (k + 1) s]
      cases ix r s with
      | none => rfl
      | some i => show ((k + 1 + i : Nat) : Int) = ((k + (i + 1) : Nat) : Int); omega
noncomputable def fieldT (t : Ty) (s : ByteArray) : Option Ty := bif eqd t.k 8 then (ix t.labels s).bind fun i => t.args[i]? else none
noncomputable def fieldV (v : Val) (s : ByteArray) : Option Val := bif eqd v.k 4 then (ix v.labels s).bind fun i => v.kids[i]? else none

theorem fieldT_run (t : Ty) (s : ByteArray) (h : Heap) (r : R) (hr : ∀ a : Int, a = idxR t.labels 0 s → cond (!(eqd t.k 8)) (some (.ret (.tup [.agg zeroT.cells, .lit (.bool false)]), h)) (cond (decide (a < 0)) (some (.ret (.tup [.agg zeroT.cells, .lit (.bool false)]), h)) (cond (decide (a ≥ (t.args.length : Int))) (some (.ret (.tup [.agg zeroT.cells, .lit (.bool false)]), h)) ((indexA 5 (.sl 5 (t.args.map Ty.cells)) (.lit (.int .i64 a))).bind fun e => (partA true 5 0 e).bind fun v => (aggOf v).bind fun l => cond (Nat.beq l.length 5) (some (.ret (.tup [.agg [l.getD 0 .dead, l.getD 1 .dead, l.getD 2 .dead, l.getD 3 .dead, l.getD 4 .dead], .lit (.bool true)]), h)) none))) = r) :
    r = some (.ret (.tup [.agg ((fieldT t s).getD zeroT).cells, .lit (.bool (fieldT t s).isSome)]), h) := by
  rw [← hr _ rfl]
  have hix := idxR_ix t.labels 0 s
  rw [show ((0 : Nat) : Int) = 0 from rfl] at hix
  rw [hix]
  unfold fieldT
  cases eqd t.k 8 with
  | false => rfl
  | true =>
    rw [Bool.not_true, condF, cond_true]
    cases ix t.labels s with
    | none => rfl
    | some i =>
      show cond (decide (((0 + i : Nat) : Int) < 0)) _ (cond (decide (((0 + i : Nat) : Int) ≥ (t.args.length : Int))) _ ((indexA 5 _ (.lit (.int .i64 ((0 + i : Nat) : Int)))).bind _)) = _
      rw [Nat.zero_add, decide_eq_false (show ¬ (i : Int) < 0 by omega), condF, Option.bind_some]
      by_cases hi : i < t.args.length
      · rw [decide_eq_false (show ¬ (i : Int) ≥ (t.args.length : Int) by omega), condF, indexA_map _ _ _ _ hi, bind_some', partA_full (Ty.cells_len _), bind_some', aggS, bind_some', Ty.cells_len, b5, condT, Ty.refold, List.getElem?_eq_getElem hi]; rfl
      · rw [decide_eq_true (show (i : Int) ≥ (t.args.length : Int) by omega), condT, List.getElem?_eq_none (by omega)]; rfl
theorem field174 (t : Ty) (ok : t.Ok) (s : ByteArray) (h : Heap) : evw E 174 [.agg t.cells, .lit (.string s)] h = some (.ret (.tup [.agg ((fieldT t s).getD zeroT).cells, .lit (.bool (fieldT t s).isSome)]), h) := by
  refine evw_run primsC 0 rfl rfl rfl ?_
  rw [nf174]
  refine fieldT_run t s h _ fun a ha => ?_
  simp only [aggS, bind_some', Ty.cells_len, b5, condT, Ty.c0, Ty.c3, Ty.c4, index_prog _ ok.lab, onOut_ret, ← ha, bin_int, neqE, boolB, lssI, geqI, lenA29, List.length_map, zeroT_cells]
theorem fieldV_run (t : Val) (s : ByteArray) (h : Heap) (r : R) (hr : ∀ a : Int, a = idxR t.labels 0 s → cond (!(eqd t.k 4)) (some (.ret (.tup [.agg zeroV.cells, .lit (.bool false)]), h)) (cond (decide (a < 0)) (some (.ret (.tup [.agg zeroV.cells, .lit (.bool false)]), h)) (cond (decide (a ≥ (t.kids.length : Int))) (some (.ret (.tup [.agg zeroV.cells, .lit (.bool false)]), h)) ((indexA 10 (.sl 10 (t.kids.map Val.cells)) (.lit (.int .i64 a))).bind fun e => (partA true 10 0 e).bind fun v => (aggOf v).bind fun l => cond (Nat.beq l.length 10) (some (.ret (.tup [.agg [l.getD 0 .dead, l.getD 1 .dead, l.getD 2 .dead, l.getD 3 .dead, l.getD 4 .dead, l.getD 5 .dead, l.getD 6 .dead, l.getD 7 .dead, l.getD 8 .dead, l.getD 9 .dead], .lit (.bool true)]), h)) none))) = r) :
    r = some (.ret (.tup [.agg ((fieldV t s).getD zeroV).cells, .lit (.bool (fieldV t s).isSome)]), h) := by
  rw [← hr _ rfl]
  have hix := idxR_ix t.labels 0 s
  rw [show ((0 : Nat) : Int) = 0 from rfl] at hix
  rw [hix]
  unfold fieldV
  cases eqd t.k 4 with
  | false => rfl
  | true =>
    rw [Bool.not_true, condF, cond_true]
    cases ix t.labels s with
    | none => rfl
    | some i =>
      show cond (decide (((0 + i : Nat) : Int) < 0)) _ (cond (decide (((0 + i : Nat) : Int) ≥ (t.kids.length : Int))) _ ((indexA 10 _ (.lit (.int .i64 ((0 + i : Nat) : Int)))).bind _)) = _
      rw [Nat.zero_add, decide_eq_false (show ¬ (i : Int) < 0 by omega), condF, Option.bind_some]
      by_cases hi : i < t.kids.length
      · rw [decide_eq_false (show ¬ (i : Int) ≥ (t.kids.length : Int) by omega), condF, indexA_map _ _ _ _ hi, bind_some', partA_full (Val.cells_len _), bind_some', aggS, bind_some', Val.cells_len, b10, condT, Val.re, List.getElem?_eq_getElem hi]; rfl
      · rw [decide_eq_true (show (i : Int) ≥ (t.kids.length : Int) by omega), condT, List.getElem?_eq_none (by omega)]; rfl
theorem field179 (t : Val) (ok : t.Ok) (s : ByteArray) (h : Heap) : evw E 179 [.agg t.cells, .lit (.string s)] h = some (.ret (.tup [.agg ((fieldV t s).getD zeroV).cells, .lit (.bool (fieldV t s).isSome)]), h) := by
  refine evw_run primsC 0 rfl rfl rfl ?_
  rw [nf179]
  refine fieldV_run t s h _ fun a ha => ?_
  simp only [aggS, bind_some', Val.cells_len, b10, condT, Val.c0, Val.c8, Val.c9, index_prog _ ok.lab, onOut_ret, ← ha, bin_int, neqE, boolB, lssI, geqI, lenA55, List.length_map, zeroV_cells]
theorem field129 (t : Val) (ok : t.Ok) (s : ByteArray) (h : Heap) : evw E 129 [.agg t.cells, .lit (.string s)] h = some (.ret (.tup [.agg ((fieldV t s).getD zeroV).cells, .lit (.bool (fieldV t s).isSome)]), h) := by
  refine evw_run primsC 0 rfl rfl rfl ?_
  rw [nf129]
  refine fieldV_run t s h _ fun a ha => ?_
  simp only [aggS, bind_some', Val.cells_len, b10, condT, Val.c0, Val.c8, Val.c9, place_ref _ ok.lab, onOut_ret, ← ha, bin_int, neqE, boolB, lssI, geqI, lenA55, List.length_map, zeroV_cells]
end Go.Sh.T

/- Casts in plain Lean. -/
namespace Go.Sh.T
open Go Go.Sh
set_option linter.unusedSimpArgs false
set_option linter.unusedVariables false
set_option maxRecDepth 100000

def Got.bind (g : Got) (f : Val → Got) : Got := match g with | .ok v => f v | .bl s n => .bl s n
theorem Got.bind_ok (v : Val) (f : Val → Got) : (Got.ok v).bind f = f v := rfl
abbrev DoF := Val → Ty → Ty → ByteArray → Int → Got
noncomputable def wrapV (v : Val) (a b : Ty) (s : ByteArray) (n : Int) : Got := bif !v.fn then .bl s n else bif eqd a b then .ok v else .ok ⟨6, 0, 0, false, ByteArray.empty, s, n, [a, b], [], [v]⟩
noncomputable def opq (l : List Seal) (n : Int) : Bool := (findT l n).2 && (findT l n).1.bound.same tyTop
noncomputable def hid (l : List Seal) (v : Val) : Bool := !(eqd v.k 8) || (!(eqd v.kids.length 1) || (!(findT l v.n).2 || opq l v.n))
noncomputable def revealF (d : DoF) (l : List Seal) (v : Val) (b : Ty) (s : ByteArray) (n : Int) : Got := bif hid l v then .bl s n else
  (d (v.kids.headD zeroV) (findT l v.n).1.rep (findT l v.n).1.bound (findT l v.n).1.df (findT l v.n).1.nd).bind fun w => d w (findT l v.n).1.bound b s n
def recV (labels : List ByteArray) (kids : List Val) : Val := ⟨4, 0, 0, false, ByteArray.empty, ByteArray.empty, 0, [], labels, kids⟩
noncomputable def fldL (f : Nat → Val → Got) (v : Val) (s : ByteArray) (n : Int) (all : List ByteArray) : Nat → List ByteArray → List Val → Got
  | _, [], acc => .ok (recV all acc)
  | i, x :: r, acc => match fieldV v x with
    | none => .bl s n
    | some y => (f i y).bind fun w => fldL f v s n all (i + 1) r (acc ++ [w])
noncomputable def fieldsF (f : Nat → Val → Got) (v : Val) (labels : List ByteArray) (s : ByteArray) (n : Int) : Got := bif eqd v.k 4 then fldL f v s n labels 0 labels [] else .bl s n
noncomputable def knownV (v : Val) : Val × Ty := bif eqd v.k 6 && (eqd v.kids.length 1 && (eqd v.types.length 2 && eqd (v.types.getD 1 zeroT) unkT)) then (v.kids.headD zeroV, v.types.headD zeroT) else (v, unkT)
noncomputable def outF (d : DoF) (l : List Seal) (v : Val) (b : Ty) (s : ByteArray) (n : Int) : Got :=
  bif eqd v.k 8 then (bif eqd b.k 9 && eqd b.n v.n then .ok v else revealF d l v b s n) else
  bif eqd b.k 1 then (bif eqd v.k 1 then .ok v else .bl s n) else bif eqd b.k 2 then (bif eqd v.k 2 then .ok v else .bl s n) else bif eqd b.k 3 then (bif eqd v.k 3 then .ok v else .bl s n) else
  bif eqd b.k 7 then wrapV (knownV v).1 (knownV v).2 b s n else
  bif eqd b.k 8 then fieldsF (fun i y => match b.args[i]? with | some t => d y dynT t s n | none => .bl s n) v b.labels s n else .bl s n
noncomputable def inF (d : DoF) (v : Val) (a : Ty) (s : ByteArray) (n : Int) : Got :=
  bif eqd a.k 1 then (bif eqd v.k 1 then .ok v else .bl s n) else bif eqd a.k 2 then (bif eqd v.k 2 then .ok v else .bl s n) else bif eqd a.k 3 then (bif eqd v.k 3 then .ok v else .bl s n) else
  bif eqd a.k 7 then wrapV v a unkT s n else
  bif eqd a.k 8 then fieldsF (fun i y => match a.args[i]? with | some t => d y t dynT s n | none => .bl s n) v a.labels s n else .bl s n
noncomputable def recsF (d : DoF) (v : Val) (a b : Ty) (s : ByteArray) (n : Int) : Got :=
  fieldsF (fun i y => match fieldT a (b.labels.getD i ByteArray.empty) with | none => .bl s n | some t => match b.args[i]? with | some u => d y t u s n | none => .bl s n) v b.labels s n
noncomputable def stepF (d : DoF) (l : List Seal) (v : Val) (a b : Ty) (s : ByteArray) (n : Int) : Got :=
  bif eqd a b then .ok v else
  bif eqd a.k 9 && b.loose then .ok v else
  bif eqd a.k 9 then (bif eqd v.k 8 && eqd v.n a.n then revealF d l v b s n else .bl s n) else
  bif a.loose && b.loose then .ok v else
  bif a.loose then outF d l v b s n else
  bif b.loose then inF d v a s n else
  bif eqd a.k 7 && eqd b.k 7 then wrapV v a b s n else
  bif eqd a.k 8 && eqd b.k 8 then recsF d v a b s n else .bl s n
/-- A cast, so many levels deep. -/
noncomputable def castF (l : List Seal) : Nat → DoF
  | 0 => fun v a b s n => .bl s n
  | k + 1 => fun v a b s n => stepF (castF l k) l v a b s n

/- how deep a value is, but for casts around it -/
mutual
noncomputable def Val.dep : Val → Nat
  | ⟨k, _, _, _, _, _, _, _, _, xs⟩ => bif eqd k 6 then Val.depL xs else Val.depL xs + 1
noncomputable def Val.depL : List Val → Nat
  | [] => 0
  | x :: r => max x.dep (Val.depL r)
end
theorem Val.dep_eq (v : Val) : v.dep = bif eqd v.k 6 then Val.depL v.kids else Val.depL v.kids + 1 := by cases v; rw [Val.dep]
theorem depL_mem : ∀ (l : List Val) (x : Val), x ∈ l → x.dep ≤ Val.depL l
  | y :: r, x, h => by
    rw [Val.depL]
    rcases List.mem_cons.1 h with e | e
    · rw [e]; exact Nat.le_max_left _ _
    · exact Nat.le_trans (depL_mem r x e) (Nat.le_max_right _ _)
theorem depL_le : ∀ (l : List Val) (m : Nat), (∀ x ∈ l, x.dep ≤ m) → Val.depL l ≤ m
  | [], m, _ => by rw [Val.depL]; exact Nat.zero_le _
  | x :: r, m, h => by
    rw [Val.depL]
    exact Nat.max_le.2 ⟨h x List.mem_cons_self, depL_le r m fun y hy => h y (List.mem_cons_of_mem _ hy)⟩
theorem dep_kid {v x : Val} (hk : (eqd v.k 6) = false) (hx : x ∈ v.kids) : x.dep + 1 ≤ v.dep := by
  rw [Val.dep_eq v, hk, cond_false]
  have := depL_mem _ _ hx; omega
theorem dep_kid' {v x : Val} (hx : x ∈ v.kids) : x.dep ≤ v.dep := by
  rw [Val.dep_eq v]
  have := depL_mem _ _ hx
  cases eqd v.k 6 with
  | true => exact this
  | false => show _ ≤ Val.depL v.kids + 1; omega
theorem recV_dep (ls : List ByteArray) (ks : List Val) : (recV ls ks).dep = Val.depL ks + 1 := by
  rw [Val.dep_eq, show eqd (recV ls ks).k 6 = false from eqd_f (show (4 : Int) ≠ 6 by decide)]; rfl
theorem fieldV_mem {v y : Val} {x : ByteArray} (h : fieldV v x = some y) : y ∈ v.kids ∧ v.k = 4 := by
  unfold fieldV at h
  cases hk : eqd v.k 4 with
  | false => rw [hk] at h; cases h
  | true =>
    rw [hk, cond_true, Option.bind_eq_some_iff] at h
    obtain ⟨i, _, h⟩ := h
    exact ⟨List.mem_of_getElem? h, eqd_iff.1 hk⟩
theorem one_head {l : List Val} (h : eqd l.length 1 = true) : l = [l.headD zeroV] := by
  match l, eqd_iff.1 h with
  | [x], _ => rfl
theorem hid_f {l : List Seal} {v : Val} (h : hid l v = false) : v.k = 8 ∧ v.kids = [v.kids.headD zeroV] ∧ (findT l v.n).2 = true ∧ opq l v.n = false := by
  unfold hid at h
  simp only [Bool.or_eq_false_iff, Bool.not_eq_false'] at h
  obtain ⟨h1, h2, h3, h4⟩ := h
  exact ⟨eqd_iff.1 h1, one_head h2, h3, h4⟩
theorem findT_mem {l : List Seal} {n : Int} (h : (findT l n).2 = true) : (findT l n).1 ∈ l := by
  unfold findT at h ⊢
  split at h <;> simp_all

/-- What comes of fields, one by one. -/
theorem fldL_ok {f : Nat → Val → Got} {v : Val} {s : ByteArray} {n : Int} {all : List ByteArray} : ∀ (r : List ByteArray) (i : Nat) (acc : List Val) {w : Val}, fldL f v s n all i r acc = .ok w →
    ∃ ks : List Val, w = recV all (acc ++ ks) ∧ ks.length = r.length ∧ ∀ (j : Nat) (k : Val), ks[j]? = some k → ∃ x y, r[j]? = some x ∧ fieldV v x = some y ∧ f (i + j) y = .ok k
  | [], i, acc, w, h => by
    unfold fldL at h
    have h := Got.ok.inj h
    exact ⟨[], by rw [← h, List.append_nil], rfl, fun j k hk => by simp at hk⟩
  | x :: r, i, acc, w, h => by
    unfold fldL at h
    split at h
    · cases h
    · rename_i y hy
      cases hf : f i y with
      | bl a b => rw [hf] at h; cases h
      | ok z =>
        rw [hf, Got.bind_ok] at h
        obtain ⟨ks, h1, h2, h3⟩ := fldL_ok r (i + 1) (acc ++ [z]) h
        refine ⟨z :: ks, by rw [h1, List.append_assoc]; rfl, by simp [h2], fun j k hk => ?_⟩
        cases j with
        | zero =>
          have : z = k := by simpa using hk
          exact ⟨x, y, rfl, hy, by rw [← this]; exact hf⟩
        | succ j =>
          obtain ⟨x', y', e1, e2, e3⟩ := h3 j k (by simpa using hk)
          exact ⟨x', y', by simpa using e1, e2, by rw [show i + (j + 1) = i + 1 + j from by omega]; exact e3⟩
theorem fieldsF_ok {f : Nat → Val → Got} {v : Val} {s : ByteArray} {n : Int} {ls : List ByteArray} {w : Val} (h : fieldsF f v ls s n = .ok w) :
    v.k = 4 ∧ ∃ ks : List Val, w = recV ls ks ∧ ks.length = ls.length ∧ ∀ (j : Nat) (k : Val), ks[j]? = some k → ∃ x y, ls[j]? = some x ∧ fieldV v x = some y ∧ f j y = .ok k := by
  unfold fieldsF at h
  cases hk : eqd v.k 4 with
  | false => rw [hk] at h; cases h
  | true =>
    rw [hk, cond_true] at h
    obtain ⟨ks, h1, h2, h3⟩ := fldL_ok ls 0 [] h
    rw [List.nil_append] at h1
    refine ⟨eqd_iff.1 hk, ks, h1, h2, fun j k hjk => ?_⟩
    have := h3 j k hjk
    rw [Nat.zero_add] at this; exact this
theorem fldL_bl {f : Nat → Val → Got} {v : Val} {s s' : ByteArray} {n n' : Int} {all : List ByteArray} : ∀ (r : List ByteArray) (i : Nat) (acc : List Val), fldL f v s n all i r acc = .bl s' n' → (s' = s ∧ n' = n) ∨ ∃ j y, fieldV v (r.getD j ByteArray.empty) = some y ∧ j < r.length ∧ f (i + j) y = .bl s' n'
  | [], i, acc, h => by unfold fldL at h; cases h
  | x :: r, i, acc, h => by
    unfold fldL at h
    split at h
    · cases h; exact .inl ⟨rfl, rfl⟩
    · rename_i y hy
      cases hf : f i y with
      | bl a b => rw [hf] at h; cases h; exact .inr ⟨0, y, hy, by simp, hf⟩
      | ok z =>
        rw [hf, Got.bind_ok] at h
        rcases fldL_bl r (i + 1) (acc ++ [z]) h with h1 | ⟨j, y', h1, h2, h3⟩
        · exact .inl h1
        · exact .inr ⟨j + 1, y', by simpa using h1, by simpa using h2, by rw [show i + (j + 1) = i + 1 + j from by omega]; exact h3⟩
theorem fieldsF_bl {f : Nat → Val → Got} {v : Val} {s s' : ByteArray} {n n' : Int} {ls : List ByteArray} (h : fieldsF f v ls s n = .bl s' n') : (s' = s ∧ n' = n) ∨ ∃ j y, fieldV v (ls.getD j ByteArray.empty) = some y ∧ j < ls.length ∧ f j y = .bl s' n' := by
  unfold fieldsF at h
  cases hk : eqd v.k 4 with
  | false => rw [hk] at h; cases h; exact .inl ⟨rfl, rfl⟩
  | true =>
    rw [hk, cond_true] at h
    rcases fldL_bl ls 0 [] h with h1 | ⟨j, y', h1, h2, h3⟩
    · exact .inl h1
    · rw [Nat.zero_add] at h3; exact .inr ⟨j, y', h1, h2, h3⟩

/- what comes is no deeper, and as it must be -/
structure Fit (t : Ty) : Prop where
  ok : t.Ok
  right : t.right = true
  vol : t.vol ≤ 1048576
def SealsFit (l : List Seal) : Prop := ∀ s ∈ l, s.Ok ∧ Fit s.rep ∧ Fit s.bound

theorem wrapV_ok {v w : Val} {a b : Ty} {s : ByteArray} {n : Int} (h : wrapV v a b s n = .ok w) : v.fn = true ∧ ((a = b ∧ w = v) ∨ (a ≠ b ∧ w = ⟨6, 0, 0, false, ByteArray.empty, s, n, [a, b], [], [v]⟩)) := by
  unfold wrapV at h
  cases hf : v.fn with
  | false => rw [hf] at h; cases h
  | true =>
    rw [hf] at h
    simp only [Bool.not_true, cond_false] at h
    cases he : eqd a b with
    | true => rw [he] at h; exact ⟨rfl, .inl ⟨eqd_iff.1 he, (Got.ok.inj h).symm⟩⟩
    | false => rw [he] at h; exact ⟨rfl, .inr ⟨(fun e => by rw [e, eqd_self] at he; cases he), (Got.ok.inj h).symm⟩⟩
theorem wrapV_bl {v : Val} {a b : Ty} {s s' : ByteArray} {n n' : Int} (h : wrapV v a b s n = .bl s' n') : s' = s ∧ n' = n := by
  unfold wrapV at h
  cases hf : v.fn with
  | false =>
    rw [hf] at h
    simp only [Bool.not_false, cond_true, Got.bl.injEq] at h
    exact ⟨h.1.symm, h.2.symm⟩
  | true =>
    rw [hf] at h
    simp only [Bool.not_true, cond_false] at h
    cases he : eqd a b <;> rw [he] at h <;> cases h
theorem castNode_dep (a b : Ty) (s : ByteArray) (n : Int) (v : Val) : (Val.mk 6 0 0 false ByteArray.empty s n [a, b] [] [v]).dep = v.dep := by
  rw [Val.dep_eq, show eqd (Val.mk 6 0 0 false ByteArray.empty s n [a, b] [] [v]).k 6 = true from eqd_self _, cond_true, Val.depL, Val.depL]
  exact Nat.max_eq_left (Nat.zero_le _)
theorem knownV_cases (v : Val) : (knownV v = (v, unkT)) ∨ (v.k = 6 ∧ v.kids = [(knownV v).1] ∧ v.types = [(knownV v).2, unkT]) := by
  unfold knownV
  cases h : eqd v.k 6 && (eqd v.kids.length 1 && (eqd v.types.length 2 && eqd (v.types.getD 1 zeroT) unkT)) with
  | false => exact .inl rfl
  | true =>
    simp only [Bool.and_eq_true] at h
    obtain ⟨h1, h2, h3, h4⟩ := h
    refine .inr ⟨eqd_iff.1 h1, one_head h2, ?_⟩
    match hv : v.types, eqd_iff.1 h3 with
    | [x, y], _ =>
      rw [hv] at h4
      have : y = unkT := eqd_iff.1 h4
      rw [this]; rfl
theorem knownV_dep (v : Val) : (knownV v).1.dep ≤ v.dep := by
  rcases knownV_cases v with h | ⟨_, h2, _⟩
  · rw [h]; exact Nat.le_refl _
  · exact dep_kid' (by rw [h2]; exact List.mem_singleton.2 rfl)

structure Val.Good (v : Val) (m : Nat) : Prop where
  ok : v.Ok
  dep : v.dep ≤ m
theorem recV_good {ls : List ByteArray} {ks : List Val} {m : Nat} (hl : ls.length ≤ maxLen) (hls : ∀ s ∈ ls, s.size ≤ maxLen) (hlen : ks.length = ls.length) (h : ∀ k ∈ ks, k.Good m) : (recV ls ks).Good (m + 1) := by
  refine ⟨.mk (Nat.zero_le _) (Nat.zero_le _) (Nat.zero_le _) (fun _ h => by cases h) hl hls (show ks.length ≤ maxLen by rw [hlen]; exact hl) fun k hk => (h k hk).ok, ?_⟩
  rw [recV_dep]
  have := depL_le ks m fun k hk => (h k hk).dep
  omega
theorem castNode_good {a b : Ty} (ha : a.Ok) (hb : b.Ok) {s : ByteArray} (hs : s.size ≤ maxLen) (n : Int) {v : Val} {m : Nat} (h : v.Good m) : (Val.mk 6 0 0 false ByteArray.empty s n [a, b] [] [v]).Good m := by
  refine ⟨.mk (Nat.zero_le _) hs (show 2 ≤ maxLen by decide) (fun t ht => ?_) (Nat.zero_le _) (fun _ h => by cases h) (show 1 ≤ maxLen by decide) fun k hk => ?_, by rw [castNode_dep]; exact h.dep⟩
  · rcases List.mem_cons.1 ht with e | e
    · rw [e]; exact ha
    · rw [List.mem_singleton.1 e]; exact hb
  · rw [List.mem_singleton.1 hk]; exact h.ok
theorem wrapV_good {v w : Val} {a b : Ty} {s : ByteArray} {n : Int} {m : Nat} (ha : a.Ok) (hb : b.Ok) (hs : s.size ≤ maxLen) (hv : v.Good m) (h : wrapV v a b s n = .ok w) : w.Good m := by
  rcases (wrapV_ok h).2 with ⟨_, e⟩ | ⟨_, e⟩
  · rw [e]; exact hv
  · rw [e]; exact castNode_good ha hb hs n hv
theorem knownV_good {v : Val} {m : Nat} (hv : v.Good m) : (knownV v).1.Good m ∧ (knownV v).2.Ok := by
  rcases knownV_cases v with h | ⟨_, h2, h3⟩
  · rw [h]; exact ⟨hv, unkT_ok⟩
  · exact ⟨⟨hv.ok.kid (by rw [h2]; exact List.mem_singleton.2 rfl), Nat.le_trans (knownV_dep v) hv.dep⟩, hv.ok.ty (by rw [h3]; exact List.mem_cons_self)⟩

theorem Ty.Ok.labels {t : Ty} (h : t.Ok) : ∀ s ∈ t.labels, s.size ≤ maxLen := by cases h with | mk _ _ _ _ hls _ _ => exact hls

theorem fieldsF_good {f : Nat → Val → Got} {v w : Val} {s : ByteArray} {n : Int} {ls : List ByteArray} {m : Nat} (hl : ls.length ≤ maxLen) (hls : ∀ s ∈ ls, s.size ≤ maxLen) (hv : v.Good (m + 1)) (hf : ∀ i y w, y.Good m → f i y = .ok w → w.Good m) (h : fieldsF f v ls s n = .ok w) : w.Good (m + 1) := by
  obtain ⟨hk, ks, h1, h2, h3⟩ := fieldsF_ok h
  rw [h1]
  refine recV_good hl hls h2 fun k hk' => ?_
  obtain ⟨j, hj⟩ := List.mem_iff_getElem?.1 hk'
  obtain ⟨x, y, e1, e2, e3⟩ := h3 j k hj
  have hm := (fieldV_mem e2).1
  refine hf j y k ⟨hv.ok.kid hm, ?_⟩ e3
  have := dep_kid (show eqd v.k 6 = false from eqd_f (by rw [hk]; decide)) hm
  have := hv.dep
  omega
theorem dep_pos {v : Val} (h : eqd v.k 6 = false) : 1 ≤ v.dep := by rw [Val.dep_eq, h, cond_false]; omega

/-- A cast gives no more levels than there were. -/
theorem castF_good (l : List Seal) (hl : ∀ s ∈ l, s.Ok) : ∀ (k : Nat) (v : Val) (a b : Ty) (s : ByteArray) (n : Int) (m : Nat) (w : Val), a.Ok → b.Ok → s.size ≤ maxLen → v.Good m → castF l k v a b s n = .ok w → w.Good m
  | 0, v, a, b, s, n, m, w, _, _, _, _, h => by cases h
  | k + 1, v, a, b, s, n, m, w, ha, hb, hs, hv, h => by
    have ih := castF_good l hl k
    have hrev : ∀ b, b.Ok → revealF (castF l k) l v b s n = .ok w → w.Good m := by
      intro b hb h
      unfold revealF at h
      cases hh : hid l v with
      | true => rw [hh] at h; cases h
      | false =>
        rw [hh, cond_false] at h
        obtain ⟨h1, h2, h3, h4⟩ := hid_f hh
        have hso := hl _ (findT_mem h3)
        cases hd : castF l k (v.kids.headD zeroV) (findT l v.n).1.rep (findT l v.n).1.bound (findT l v.n).1.df (findT l v.n).1.nd with
        | bl x y => rw [hd] at h; cases h
        | ok z =>
          rw [hd, Got.bind_ok] at h
          have hmem : v.kids.headD zeroV ∈ v.kids := by rw [h2]; exact List.mem_singleton.2 rfl
          have hz := ih _ _ _ _ _ m z hso.rep hso.bound hso.df ⟨hv.ok.kid hmem, Nat.le_trans (dep_kid' hmem) hv.dep⟩ hd
          exact ih _ _ _ _ _ m w hso.bound hb hs hz h
    have hfl : ∀ (f : Nat → Val → Got) (ls : List ByteArray), ls.length ≤ maxLen → (∀ s ∈ ls, s.size ≤ maxLen) → (∀ m i y w, y.Good m → f i y = .ok w → w.Good m) → fieldsF f v ls s n = .ok w → w.Good m := by
      intro f ls h1 h2 h3 h4
      have hk := (fieldsF_ok h4).1
      have hp := dep_pos (show eqd v.k 6 = false from eqd_f (by rw [hk]; decide))
      have hd := hv.dep
      obtain ⟨m', rfl⟩ : ∃ m', m = m' + 1 := ⟨m - 1, by omega⟩
      exact fieldsF_good h1 h2 hv (h3 m') h4
    have hbase : ∀ c : Bool, (bif c then Got.ok v else .bl s n) = .ok w → w.Good m := by
      intro c h
      cases c with
      | false => cases h
      | true => rw [← Got.ok.inj h]; exact hv
    change stepF (castF l k) l v a b s n = .ok w at h
    unfold stepF at h
    cases h1 : eqd a b with
    | true => rw [h1] at h; rw [← Got.ok.inj h]; exact hv
    | false =>
    rw [h1, cond_false] at h
    cases h2 : eqd a.k 9 && b.loose with
    | true => rw [h2] at h; rw [← Got.ok.inj h]; exact hv
    | false =>
    rw [h2, cond_false] at h
    cases h3 : eqd a.k 9 with
    | true =>
      rw [h3, cond_true] at h
      cases h4 : eqd v.k 8 && eqd v.n a.n with
      | true => rw [h4] at h; exact hrev b hb h
      | false => rw [h4] at h; cases h
    | false =>
    rw [h3, cond_false] at h
    cases h4 : a.loose && b.loose with
    | true => rw [h4] at h; rw [← Got.ok.inj h]; exact hv
    | false =>
    rw [h4, cond_false] at h
    cases h5 : a.loose with
    | true =>
      rw [h5, cond_true] at h
      unfold outF at h
      cases g1 : eqd v.k 8 with
      | true =>
        rw [g1, cond_true] at h
        cases g2 : eqd b.k 9 && eqd b.n v.n with
        | true => rw [g2] at h; rw [← Got.ok.inj h]; exact hv
        | false => rw [g2] at h; exact hrev b hb h
      | false =>
        rw [g1, cond_false] at h
        cases g2 : eqd b.k 1 with
        | true => rw [g2] at h; exact hbase _ h
        | false =>
        rw [g2, cond_false] at h
        cases g3 : eqd b.k 2 with
        | true => rw [g3] at h; exact hbase _ h
        | false =>
        rw [g3, cond_false] at h
        cases g4 : eqd b.k 3 with
        | true => rw [g4] at h; exact hbase _ h
        | false =>
        rw [g4, cond_false] at h
        cases g5 : eqd b.k 7 with
        | true => rw [g5] at h; exact wrapV_good (knownV_good hv).2 hb hs (knownV_good hv).1 h
        | false =>
        rw [g5, cond_false] at h
        cases g6 : eqd b.k 8 with
        | false => rw [g6] at h; cases h
        | true =>
          rw [g6, cond_true] at h
          refine hfl _ _ hb.lab hb.labels (fun m i y w hy hw => ?_) h
          split at hw
          · rename_i t ht
            exact ih y dynT t s n m w dynT_ok (hb.arg (List.mem_of_getElem? ht)) hs hy hw
          · cases hw
    | false =>
    rw [h5, cond_false] at h
    cases h6 : b.loose with
    | true =>
      rw [h6, cond_true] at h
      unfold inF at h
      cases g2 : eqd a.k 1 with
      | true => rw [g2] at h; exact hbase _ h
      | false =>
      rw [g2, cond_false] at h
      cases g3 : eqd a.k 2 with
      | true => rw [g3] at h; exact hbase _ h
      | false =>
      rw [g3, cond_false] at h
      cases g4 : eqd a.k 3 with
      | true => rw [g4] at h; exact hbase _ h
      | false =>
      rw [g4, cond_false] at h
      cases g5 : eqd a.k 7 with
      | true => rw [g5] at h; exact wrapV_good ha unkT_ok hs hv h
      | false =>
      rw [g5, cond_false] at h
      cases g6 : eqd a.k 8 with
      | false => rw [g6] at h; cases h
      | true =>
        rw [g6, cond_true] at h
        refine hfl _ _ ha.lab ha.labels (fun m i y w hy hw => ?_) h
        split at hw
        · rename_i t ht
          exact ih y t dynT s n m w (ha.arg (List.mem_of_getElem? ht)) dynT_ok hs hy hw
        · cases hw
    | false =>
    rw [h6, cond_false] at h
    cases h7 : eqd a.k 7 && eqd b.k 7 with
    | true => rw [h7] at h; exact wrapV_good ha hb hs hv h
    | false =>
    rw [h7, cond_false] at h
    cases h8 : eqd a.k 8 && eqd b.k 8 with
    | false => rw [h8] at h; cases h
    | true =>
      rw [h8, cond_true] at h
      refine hfl _ _ hb.lab hb.labels (fun m i y w hy hw => ?_) h
      split at hw
      · cases hw
      · rename_i t ht
        split at hw
        · rename_i u hu
          refine ih y t u s n m w (ha.arg ?_) (hb.arg (List.mem_of_getElem? hu)) hs hy hw
          unfold fieldT at ht
          cases ht8 : eqd a.k 8 with
          | false => rw [ht8] at ht; cases ht
          | true =>
            rw [ht8, cond_true, Option.bind_eq_some_iff] at ht
            obtain ⟨i, _, ht⟩ := ht
            exact List.mem_of_getElem? ht
        · cases hw
end Go.Sh.T

/- Casts: the program's functions. -/
namespace Go.Sh.T
open Go Go.Sh
set_option linter.unusedSimpArgs false
set_option linter.unusedVariables false
set_option maxRecDepth 100000

theorem strs_lt (m : Nat) (ls : List ByteArray) : AV.lt m (.sl 1 (ls.map strC)) := .sl _ fun e he v hv => by
  obtain ⟨s, _, rfl⟩ := List.mem_map.1 he
  rw [List.mem_singleton.1 hv]; exact .lit _
theorem tys_lt (m : Nat) (ts : List Ty) : AV.lt m (.sl 5 (ts.map Ty.cells)) := .sl _ fun e he v hv => by
  obtain ⟨t, _, rfl⟩ := List.mem_map.1 he
  exact Ty.cells_lt m t v hv
mutual
theorem Val.cells_lt (m : Nat) : ∀ c : Val, ∀ a ∈ c.cells, AV.lt m a
  | ⟨k, n, q, b, s, d, e, ts, ls, xs⟩ => by
    intro a ha
    rw [Val.cells] at ha
    simp only [List.mem_cons, List.not_mem_nil, or_false] at ha
    rcases ha with e | e | e | e | e | e | e | e | e | e <;> rw [e]
    all_goals first | exact .lit _ | exact tys_lt m ts | exact strs_lt m ls | exact .sl _ (Val.cellsL_lt m xs)
theorem Val.cellsL_lt (m : Nat) : ∀ l : List Val, ∀ x ∈ Val.cellsL l, ∀ a ∈ x, AV.lt m a
  | [] => by intro x hx; rw [Val.cellsL] at hx; cases hx
  | t :: r => by
    intro x hx
    rw [Val.cellsL] at hx
    rcases List.mem_cons.1 hx with e | e
    · rw [e]; exact Val.cells_lt m t
    · exact Val.cellsL_lt m r x e
end
theorem Got.out_lt (g : Got) (m : Nat) : g.out.lt m := by
  cases g with
  | ok v => exact .agg (Val.cells_lt m v)
  | bl s n => exact .ifc _ (.agg fun a ha => by
      simp only [List.mem_cons, List.not_mem_nil, or_false] at ha
      rcases ha with e | e <;> (rw [e]; exact .lit _))

/- heaps -/
theorem hp_left {g : Bool} {n o i : Nat} {h : Heap} {x : AV} (X : Heap) (hx : hpart g n o i h = some x) : hpart g n o i (h ++ X) = some x := by
  unfold hpart at hx ⊢
  rw [Option.bind_eq_some_iff] at hx
  obtain ⟨cs, h1, h2⟩ := hx
  rw [List.getElem?_append_left (List.getElem?_eq_some_iff.1 h1).1, h1]; exact h2
section
variable (g : Bool) (n o : Nat) (h : Heap) (A B C D : List Cell)
theorem hp3_0 : hpart g n o h.length (((h ++ ([A] : Heap)) ++ ([B] : Heap)) ++ ([C] : Heap)) = partA g n o (A.map Cell.get) := by
  rw [List.append_assoc, List.append_assoc, hpart_app0]; rfl
theorem hp3_1 : hpart g n o (h ++ ([A] : Heap)).length (((h ++ ([A] : Heap)) ++ ([B] : Heap)) ++ ([C] : Heap)) = partA g n o (B.map Cell.get) := by
  rw [List.append_assoc, hpart_app0]; rfl
theorem hp3_2 : hpart g n o ((h ++ ([A] : Heap)) ++ ([B] : Heap)).length (((h ++ ([A] : Heap)) ++ ([B] : Heap)) ++ ([C] : Heap)) = partA g n o (C.map Cell.get) := by
  rw [hpart_app0]; rfl
theorem hp4_0 : hpart g n o h.length ((((h ++ ([A] : Heap)) ++ ([B] : Heap)) ++ ([C] : Heap)) ++ ([D] : Heap)) = partA g n o (A.map Cell.get) := by
  rw [List.append_assoc, List.append_assoc, List.append_assoc, hpart_app0]; rfl
theorem hp4_1 : hpart g n o (h ++ ([A] : Heap)).length ((((h ++ ([A] : Heap)) ++ ([B] : Heap)) ++ ([C] : Heap)) ++ ([D] : Heap)) = partA g n o (B.map Cell.get) := by
  rw [List.append_assoc, List.append_assoc, hpart_app0]; rfl
theorem hp4_2 : hpart g n o ((h ++ ([A] : Heap)) ++ ([B] : Heap)).length ((((h ++ ([A] : Heap)) ++ ([B] : Heap)) ++ ([C] : Heap)) ++ ([D] : Heap)) = partA g n o (C.map Cell.get) := by
  rw [List.append_assoc ((h ++ [A]) ++ [B]), hpart_app0]; rfl
theorem hp4_3 : hpart g n o (((h ++ ([A] : Heap)) ++ ([B] : Heap)) ++ ([C] : Heap)).length ((((h ++ ([A] : Heap)) ++ ([B] : Heap)) ++ ([C] : Heap)) ++ ([D] : Heap)) = partA g n o (D.map Cell.get) := by
  rw [hpart_app0]; rfl
end
theorem tr3 {H : FHint} (hb : (H.hb.isEmpty || H.esc) = false) (h : Heap) (A B C : List Cell) {out : Out} (ho : out.lt h.length) : trunc H h out (((h ++ ([A] : Heap)) ++ ([B] : Heap)) ++ ([C] : Heap)) = some (out, h) := by
  rw [List.append_assoc, List.append_assoc]; exact trunc_app hb ho
theorem tr4 {H : FHint} (hb : (H.hb.isEmpty || H.esc) = false) (h : Heap) (A B C D : List Cell) {out : Out} (ho : out.lt h.length) : trunc H h out ((((h ++ ([A] : Heap)) ++ ([B] : Heap)) ++ ([C] : Heap)) ++ ([D] : Heap)) = some (out, h) := by
  rw [List.append_assoc, List.append_assoc, List.append_assoc]; exact trunc_app hb ho
abbrev tyB (t : Ty) : List Cell := [.v (t.cells.getD 0 .dead), .v (t.cells.getD 1 .dead), .v (t.cells.getD 2 .dead), .v (t.cells.getD 3 .dead), .v (t.cells.getD 4 .dead)]
abbrev atB (s : ByteArray) (n : Int) : List Cell := [.v (.lit (.string s)), .v (.lit (.int .i64 n))]
theorem pT (t : Ty) : partA true 5 0 ((tyB t).map Cell.get) = some (.agg t.cells) := by
  have : (tyB t).map Cell.get = t.cells := t.refold
  rw [this]; exact partA_full (Ty.cells_len _)
theorem pT0 (t : Ty) : partA false 1 0 ((tyB t).map Cell.get) = some (.lit (.int .i64 t.k)) := by
  have : (tyB t).map Cell.get = t.cells := t.refold
  rw [this, Ty.cells_eq]; rfl
theorem pT1 (t : Ty) : partA false 1 1 ((tyB t).map Cell.get) = some (.lit (.int .i64 t.n)) := by
  have : (tyB t).map Cell.get = t.cells := t.refold
  rw [this, Ty.cells_eq]; rfl
theorem pT3 (t : Ty) : partA false 1 3 ((tyB t).map Cell.get) = some (.sl 1 (t.labels.map strC)) := by
  have : (tyB t).map Cell.get = t.cells := t.refold
  rw [this, Ty.cells_eq]; rfl
theorem pAt (s : ByteArray) (n : Int) : partA true 2 0 ((atB s n).map Cell.get) = some (labA s n) := (Eq.refl _).trans rfl
theorem pHp (i : Nat) : partA false 1 0 (([.v (.hp i 0)] : List Cell).map Cell.get) = some (.hp i 0) := (Eq.refl _).trans rfl
theorem one_sl (n : Nat) (es : List (List AV)) : AV.one (.sl n es) = true := (Eq.refl _).trans rfl

/- Wrap -/
theorem castNode_cells (a b : Ty) (s : ByteArray) (n : Int) (v : Val) : (Val.mk 6 0 0 false ByteArray.empty s n [a, b] [] [v]).cells = [.lit (.int .i64 6), .lit (.int .i64 0), .lit (.int .i64 0), .lit (.bool false), .lit (.string ByteArray.empty), .lit (.string s), .lit (.int .i64 n), .sl 5 [a.cells, b.cells], .sl 1 [], .sl 10 [v.cells]] := by
  rw [Val.cells_eq]; rfl
def Got.tup : Got → AV
  | .ok v => .tup [.agg v.cells, .lit (.bool true)]
  | .bl _ _ => .tup [.agg zeroV.cells, .lit (.bool false)]
theorem wrap61 (v : Val) (a b : Ty) (ha : a.Ok) (s : ByteArray) (n : Int) (h : Heap) : evw E 61 [.agg v.cells, .agg a.cells, .agg b.cells, labA s n] h = some (.ret (wrapV v a b s n).tup, h) := by
  refine evw_run primsC 0 rfl rfl rfl ?_
  rw [nf61]
  simp only [aggS, bind_some', Val.cells_len, Ty.cells_len, b10, b5, b2, condT, g0, g1, Val.re, Ty.refold, fun118, onOut_ret, notB, boolB, same101 a b _ ha]
  unfold wrapV
  cases v.fn with
  | false => rw [Bool.not_false, condT, cond_true, Got.tup, zeroV_cells]
  | true =>
    rw [Bool.not_true, condF, cond_false]
    cases eqd a b with
    | true => rfl
    | false => rw [condF, cond_false, Got.tup, castNode_cells]
theorem wrapV_label {v : Val} {a b : Ty} {s : ByteArray} {n : Int} : wrapV v a b s n = .bl s n ∨ ∃ w, wrapV v a b s n = .ok w := by
  cases h : wrapV v a b s n with
  | ok w => exact .inr ⟨w, rfl⟩
  | bl x y => obtain ⟨rfl, rfl⟩ := wrapV_bl h; exact .inl rfl
theorem wrap153 (v : Val) (a b : Ty) (ha : a.Ok) (s : ByteArray) (n : Int) (h : Heap) : evw E 153 [.agg v.cells, .agg a.cells, .agg b.cells, labA s n] h = some ((wrapV v a b s n).out, h) := by
  refine evw_run primsC 0 rfl rfl rfl ?_
  rw [nf153]
  simp only [aggS, bind_some', Val.cells_len, Ty.cells_len, b10, b5, b2, condT, g0, g1, Val.re, Ty.refold, wrap61 v a b ha, onOut_ret]
  rcases wrapV_label (v := v) (a := a) (b := b) (s := s) (n := n) with e | ⟨w, e⟩
  · rw [e]
    simp only [Got.tup, tupS, bind_some', t20, t21, aggS, Val.cells_len, b10, condT, notB, boolB, Bool.not_false, blame149, Got.out, onOut_pan]
  · rw [e]
    simp only [Got.tup, tupS, bind_some', t20, t21, aggS, Val.cells_len, b10, condT, notB, boolB, Bool.not_true, condF, Val.re, Got.out]

/- known -/
theorem known168 (v : Val) (ok : v.Ok) (h : Heap) : evw E 168 [.agg v.cells] h = some (.ret (.tup [.agg (knownV v).1.cells, .agg (knownV v).2.cells]), h) := by
  refine evw_run primsC 0 rfl rfl rfl ?_
  rw [nf168]
  simp only [aggS, bind_some', Val.cells_len, b10, condT, unk63, onOut_ret, Ty.cells_len, b5]
  simp only [Val.re, Ty.refold]
  simp only [Val.c0, Val.c7, Val.c9, lenA55, lenA29, List.length_map, bin_int, eqlE, boolB, bind_some']
  have e1 : eqd (v.kids.length : Int) 1 = eqd v.kids.length 1 := by rw [Bool.eq_iff_iff, eqd_iff, eqd_iff]; omega
  have e2 : eqd (v.types.length : Int) 2 = eqd v.types.length 2 := by rw [Bool.eq_iff_iff, eqd_iff, eqd_iff]; omega
  rw [e1, e2]
  unfold knownV
  cases eqd v.k 6 with
  | false => rfl
  | true =>
  rw [condT, Bool.true_and]
  cases hk : eqd v.kids.length 1 with
  | false => rfl
  | true =>
  rw [condT, Bool.true_and]
  cases ht : eqd v.types.length 2 with
  | false => rfl
  | true =>
  rw [condT, Bool.true_and]
  match hkk : v.kids, eqd_iff.1 hk, htt : v.types, eqd_iff.1 ht with
  | [x], _, [t, u], _ =>
  have i1 : indexA 5 (.sl 5 ([t, u].map Ty.cells)) (.lit (.int .i64 1)) = some u.cells := indexA_map [t, u] Ty.cells 5 1 (show 1 < 2 by decide)
  have i0 : indexA 5 (.sl 5 ([t, u].map Ty.cells)) (.lit (.int .i64 0)) = some t.cells := indexA_map [t, u] Ty.cells 5 0 (show 0 < 2 by decide)
  have j0 : indexA 10 (.sl 10 ([x].map Val.cells)) (.lit (.int .i64 0)) = some x.cells := indexA_map [x] Val.cells 10 0 (show 0 < 1 by decide)
  have hu : u.Ok := ok.ty (by rw [htt]; simp)
  simp only [i1, i0, j0, bind_some', partA_full (Ty.cells_len _), partA_full (Val.cells_len _), same101 u unkT _ hu, onOut_ret, boolB, aggS, Val.cells_len, Ty.cells_len, b10, b5, condT, Val.re, Ty.refold]
  show cond (eqd u unkT) _ _ = some (Out.ret (.tup [.agg (cond (eqd u unkT) (x, t) (v, unkT)).1.cells, .agg (cond (eqd u unkT) (x, t) (v, unkT)).2.cells]), h)
  cases eqd u unkT <;> rfl

/- part -/
theorem part171 (t : Ty) (i : Nat) (hi : i < t.args.length) (s : ByteArray) (n : Int) (h : Heap) : evw E 171 [.agg t.cells, .lit (.int .i64 (i : Int)), labA s n] h = some (.ret (.agg (t.args[i]).cells), h) := by
  refine evw_run primsC 0 rfl rfl rfl ?_
  rw [nf171]
  simp only [aggS, bind_some', Ty.cells_len, b5, b2, condT, g0, g1, Ty.c4, lenA29, List.length_map, bin_int, geqI, boolB]
  rw [decide_eq_false (show ¬ (i : Int) ≥ (t.args.length : Int) by omega), condF, indexA_map _ _ _ _ hi, bind_some', partA_full (Ty.cells_len _), bind_some', aggS, bind_some', Ty.cells_len, b5, condT, Ty.refold]

/- fields -/
theorem recV_cells (ls : List ByteArray) (ks : List Val) : (recV ls ks).cells = [.lit (.int .i64 4), .lit (.int .i64 0), .lit (.int .i64 0), .lit (.bool false), .lit (.string ByteArray.empty), .lit (.string ByteArray.empty), .lit (.int .i64 0), .sl 5 [], .sl 1 (ls.map strC), .sl 10 (ks.map Val.cells)] := by
  rw [Val.cells_eq]; rfl
theorem apV (acc : List Val) (x : Val) (h : acc.length ≤ 1048576) : Nat.ble ((acc.map Val.cells).length + ([x.cells] : List (List AV)).length) maxApp = true := by
  rw [Nat.ble_eq, List.length_map]; show acc.length + 1 ≤ maxApp; unfold maxApp; omega
theorem apVE (acc : List Val) (x : Val) : acc.map Val.cells ++ [x.cells] = (acc ++ [x]).map Val.cells := by simp
theorem fields169 (f : Nat → Val → Got) (v : Val) (ok : v.Ok) (ls : List ByteArray) (hl : ls.length ≤ 1048576) (s : ByteArray) (n : Int) (fv : AV) (h : Heap)
    (ht : ∀ i (hi : i < ls.length) y, fieldV v ls[i] = some y → applyV (evw E) fv [.lit (.int .i64 (i : Int)), .agg y.cells] h = some ((f i y).out, h)) :
    evw E 169 [.agg v.cells, .sl 1 (ls.map strC), labA s n, fv] h = some ((fieldsF f v ls s n).out, h) := by
  have loop : ∀ (q i : Nat) (acc : List Val), i ≤ ls.length → ls.length < q + i → acc.length = i →
      Lp169_0 (evw E) (ls.length + 1) h q h fv (.lit (.int .i64 v.k)) (.lit (.int .i64 v.n)) (.lit (.int .i64 v.m)) (.lit (.bool v.inn)) (.lit (.string v.s)) (.lit (.string v.df)) (.lit (.int .i64 v.nd)) (.sl 5 (v.types.map Ty.cells)) (.sl 1 (v.labels.map strC)) (.sl 10 (v.kids.map Val.cells))
        (.lit (.string s)) (.lit (.int .i64 n)) (.lit (.int .i64 0)) (.lit (.int .i64 0)) (.lit (.int .i64 0)) (.lit (.bool false)) (.lit (.string ByteArray.empty)) (.lit (.string ByteArray.empty)) (.lit (.int .i64 0)) [] [] []
        (.lit (.int .i64 4)) (.lit (.int .i64 0)) (.lit (.int .i64 0)) (.lit (.bool false)) (.lit (.string ByteArray.empty)) (.lit (.string ByteArray.empty)) (.lit (.int .i64 0)) [] (.sl 1 (ls.map strC)) (acc.map Val.cells) (.sl 1 (ls.map strC)) (.lit (.int .i64 (ls.length : Int))) (.lit (.int .i64 (i : Int))) =
      some ((fldL f v s n ls i (ls.drop i) acc).out, h) := by
    intro q
    induction q with
    | zero => intro i acc h1 h2; omega
    | succ q ih =>
      intro i acc h1 h2 h3
      rw [Lp169_0_succ, bin_int, lssI, bind_some', boolB, bind_some']
      by_cases hi : i < ls.length
      · have hvc : [AV.lit (.int .i64 v.k), .lit (.int .i64 v.n), .lit (.int .i64 v.m), .lit (.bool v.inn), .lit (.string v.s), .lit (.string v.df), .lit (.int .i64 v.nd), .sl 5 (v.types.map Ty.cells), .sl 1 (v.labels.map strC), .sl 10 (v.kids.map Val.cells)] = v.cells := (Val.cells_eq v).symm
        rw [ltT hi, condT, indexA_map _ _ _ _ hi, bind_some', part_str, bind_some', hvc, field179 v ok, onOut_ret, tupS, bind_some', t20, bind_some', bind_some', t21, bind_some', aggS, bind_some', Val.cells_len, b10, condT, notB, bind_some', boolB, bind_some', List.drop_eq_getElem_cons hi, fldL]
        cases hy : fieldV v ls[i] with
        | none =>
          simp only [Option.isSome_none, Bool.not_false, condT, blame149]
          rfl
        | some y =>
          simp only [Option.isSome_some, Bool.not_true, condF, Option.getD_some, Val.re, ht i hi y hy]
          cases hf : f i y with
          | bl a b => rfl
          | ok w =>
            simp only [Got.out, onOut_ret, aggS, bind_some', Val.cells_len, b10, condT, Val.re, Got.bind_ok]
            rw [apV acc w (by omega), condT, apVE, bin_int, addI, bind_some', incI (by omega)]
            exact ih (i + 1) (acc ++ [w]) hi (by omega) (by simp [h3])
      · rw [ltF hi, condF, List.drop_of_length_le (by omega), fldL, Got.out, recV_cells]
  refine evw_run primsC (ls.length + 1) rfl rfl rfl ?_
  rw [nf169]
  simp only [aggS, bind_some', Val.cells_len, b10, b2, condT, g0, g1, Val.re]
  rw [must148]
  simp only [one_sl, condT, lenA31, bind_some', List.length_map, Val.c0, Val.c1, Val.c2, Val.c3, Val.c4, Val.c5, Val.c6, Val.c7, Val.c8, Val.c9]
  unfold fieldsF
  cases eqd v.k 4 with
  | false => rfl
  | true =>
    have := loop (ls.length + 1) 0 [] (Nat.zero_le _) (by omega) rfl
    rw [List.drop_zero] at this
    rw [cond_true, cond_true, show (Got.ok v).out = .ret (.agg v.cells) from rfl, onOut_ret]
    exact this
end Go.Sh.T

/- Casts: the program's cast is the plain one. -/
namespace Go.Sh.T
open Go Go.Sh
set_option linter.unusedSimpArgs false
set_option linter.unusedVariables false
set_option maxRecDepth 100000

theorem sameH_self {ρ : Type} (h : Heap) (x : Option ρ) : sameH h h x = x := by unfold sameH; rw [if_pos rfl]
theorem volE_len' {α : Type} (f : α → List AV) (h1 : ∀ x, 1 ≤ volC (f x)) : ∀ (l : List α), l.length ≤ volE (l.map f)
  | [] => Nat.zero_le _
  | y :: r => by
    have := volE_len' f h1 r; have := h1 y
    rw [List.map_cons, volE, List.length_cons]; omega
theorem Ty.labels_vol (t : Ty) : t.labels.length ≤ t.vol := by
  have := volE_len' strC (fun x => by simp only [strC, volC, Sh.vol]; omega) t.labels
  unfold Ty.vol; rw [Ty.cells_eq]; simp only [volC, Sh.vol]; omega
theorem Fit.lab {t : Ty} (h : Fit t) : t.labels.length ≤ 1048576 := Nat.le_trans t.labels_vol h.vol
theorem Ty.arg_vol {t x : Ty} (h : x ∈ t.args) : x.vol ≤ t.vol := by
  have key : ∀ (l : List Ty), x ∈ l → volC x.cells ≤ volE (l.map Ty.cells) := by
    intro l
    induction l with
    | nil => intro h; cases h
    | cons y r ih =>
      intro h
      rw [List.map_cons, volE]
      rcases List.mem_cons.1 h with e | e
      · rw [e]; exact Nat.le_add_right _ _
      · have := ih e; omega
  have := key t.args h
  unfold Ty.vol; rw [Ty.cells_eq t]; simp only [volC, Sh.vol]; omega
theorem rightL_mem : ∀ {l : List Ty} {x : Ty}, Ty.rightL l = true → x ∈ l → x.right = true
  | y :: r, x, h, hx => by
    rw [Ty.rightL, Bool.and_eq_true] at h
    rcases List.mem_cons.1 hx with e | e
    · rw [e]; exact h.1
    · exact rightL_mem h.2 e
theorem Fit.arg {t x : Ty} (h : Fit t) (hx : x ∈ t.args) : Fit x := by
  have hr := h.right
  rw [Ty.right_eq, Bool.and_eq_true] at hr
  exact ⟨h.ok.arg hx, rightL_mem hr.1 hx, Nat.le_trans (Ty.arg_vol hx) h.vol⟩
theorem right_rec {t : Ty} (h : t.right = true) (hk : t.k = 8) : risingR t.labels none = true ∧ t.labels.length = t.args.length := by
  rw [Ty.right_eq, Bool.and_eq_true] at h
  have h2 := h.2
  unfold nodeR at h2
  rw [hk] at h2
  simp only [Bool.and_eq_true] at h2
  have h3 := h2.2
  simp only [show (decide ((8 : Int) ≥ 1) && decide ((8 : Int) ≤ 5)) = false from rfl, show ((8 : Int) == 6) = false from rfl, show ((8 : Int) == 9) = false from rfl, show ((8 : Int) == 7) = false from rfl, show ((8 : Int) == 8) = true from rfl, cond_false, Bool.true_and, Bool.and_eq_true, beq_iff_eq] at h3
  exact ⟨h3.1, by omega⟩
theorem dynT_fit : Fit dynT := ⟨dynT_ok, by rw [Ty.right_eq]; decide +kernel, by unfold Ty.vol; rw [dynT_cells]; decide⟩
theorem applyC (F : Nat → List AV → Heap → R) (f : Nat) (caps args : List AV) (h : Heap) : applyV F (.fn f [] caps) args h = F f (args ++ caps) h := by
  show F f ([] ++ args ++ caps) h = _
  rw [List.nil_append]

/-- The program's cast, so many levels deep. -/
def DoOk (l : List Seal) (k : Nat) : Prop := ∀ (v : Val) (a b : Ty) (s : ByteArray) (n : Int) (h : Heap) (i : Nat), v.Ok → Fit a → Fit b → s.size ≤ maxLen → v.dep < k → hpart false 1 0 i h = some (.sl 12 (l.map Seal.cells)) →
  evw E 108 [.hp i 0, .agg v.cells, .agg a.cells, .agg b.cells, labA s n] h = some ((castF l k v a b s n).out, h)

section
variable {l : List Seal} (hl : SealsFit l) {k : Nat} (ih : DoOk l k)
include hl ih

theorem reveal150 (v : Val) (b : Ty) (s : ByteArray) (n : Int) (h : Heap) (i : Nat) (ov : v.Ok) (fb : Fit b) (hs : s.size ≤ maxLen) (hd : v.dep ≤ k) (hc : hpart false 1 0 i h = some (.sl 12 (l.map Seal.cells))) :
    evw E 150 [.hp i 0, .agg v.cells, .agg b.cells, labA s n] h = some ((revealF (castF l k) l v b s n).out, h) := by
  refine evw_run primsC 0 rfl rfl rfl ?_
  rw [nf150]
  simp only [aggS, bind_some', Val.cells_len, Ty.cells_len, b10, b5, b2, condT, g0, g1, Ty.refold]
  simp only [Val.c0, Val.c1, Val.c9, hc, bind_some', find_spec, onOut_ret, tupS, t20, t21, aggS, Seal.len, show Nat.beq 12 12 = true from rfl, condT, Seal.reRep, Seal.reBound, Seal.g10, Seal.g11, bin_int, neqE, boolB, lenA55, List.length_map, blame149, notB]
  have e1 : eqd (v.kids.length : Int) 1 = eqd v.kids.length 1 := by rw [Bool.eq_iff_iff, eqd_iff, eqd_iff]; omega
  rw [e1]
  have ho := opaque_prog l (fun s hs => (hl s hs).1) v.n h
  simp only [show ((findT l v.n).2 && (findT l v.n).1.bound.same tyTop) = opq l v.n from rfl] at ho
  simp only [ho, onOut_ret, boolB, bind_some']
  unfold revealF hid
  cases h1 : eqd v.k 8 with
  | false => rfl
  | true =>
  cases h2 : eqd v.kids.length 1 with
  | false => rfl
  | true =>
  cases h3 : (findT l v.n).2 with
  | false => rfl
  | true =>
  cases h4 : opq l v.n with
  | true => rfl
  | false =>
  have hk : v.kids = [v.kids.headD zeroV] := one_head h2
  generalize v.kids.headD zeroV = x at hk
  have hx : x ∈ v.kids := by rw [hk]; exact List.mem_singleton.2 rfl
  have hsf := hl _ (findT_mem h3)
  have hdx := dep_kid (show eqd v.k 6 = false from eqd_f (by rw [eqd_iff.1 h1]; decide)) hx
  have hdo := ih x (findT l v.n).1.rep (findT l v.n).1.bound (findT l v.n).1.df (findT l v.n).1.nd h i (ov.kid hx) hsf.2.1 hsf.2.2 hsf.1.df (by omega) hc
  have j0 : indexA 10 (.sl 10 (v.kids.map Val.cells)) (.lit (.int .i64 0)) = some x.cells := by
    rw [hk]; exact indexA_map [x] Val.cells 10 0 (show 0 < 1 by decide)
  simp only [Bool.not_true, condF, j0, bind_some', partA_full (Val.cells_len _), hdo]
  cases hr : castF l k x (findT l v.n).1.rep (findT l v.n).1.bound (findT l v.n).1.df (findT l v.n).1.nd with
  | bl p q => rfl
  | ok w =>
    have hg := castF_good l (fun s hs => (hl s hs).1) k x _ _ _ _ x.dep w hsf.1.rep hsf.1.bound hsf.1.df ⟨ov.kid hx, Nat.le_refl _⟩ hr
    have hdw := ih w (findT l v.n).1.bound b s n h i hg.ok hsf.2.2 fb hs (by have := hg.dep; omega) hc
    simp only [Got.out, onOut_ret, hdw, Bool.or_self, cond_false, hr, Got.bind_ok]
    cases castF l k w (findT l v.n).1.bound b s n with
    | bl p q => rfl
    | ok z => simp only [Got.out, onOut_ret, aggS, bind_some', Val.cells_len, b10, condT, Val.re]

omit hl in
theorem turn170 (y : Val) (b : Ty) (s : ByteArray) (n : Int) (H : Heap) (i c bi ai j : Nat) (oy : y.Ok) (fb : Fit b) (hs : s.size ≤ maxLen) (hd : y.dep < k) (hj : j < b.args.length)
    (hc : hpart false 1 0 i H = some (.sl 12 (l.map Seal.cells))) (h1 : hpart false 1 0 c H = some (.hp i 0)) (h2 : hpart true 5 0 bi H = some (.agg b.cells)) (h3 : hpart true 2 0 ai H = some (labA s n)) :
    evw E 170 [.lit (.int .i64 (j : Int)), .agg y.cells, .hp c 0, .hp bi 0, .hp ai 0] H = some ((match b.args[j]? with | some t => castF l k y dynT t s n | none => .bl s n).out, H) := by
  refine evw_run primsC 0 rfl rfl rfl ?_
  rw [nf170]
  have hdo := ih y dynT b.args[j] s n H i oy dynT_fit (fb.arg (List.getElem_mem hj)) hs hd hc
  simp only [aggS, bind_some', Val.cells_len, b10, condT, Val.re, h1, dyn121, onOut_ret, sameH_self, h2, h3, part171 b j hj, hdo, List.getElem?_eq_getElem hj]
  cases castF l k y dynT b.args[j] s n with
  | bl p q => rfl
  | ok z => simp only [Got.out, onOut_ret, aggS, bind_some', Val.cells_len, b10, condT, Val.re]
omit hl in
theorem turn172 (y : Val) (b : Ty) (s : ByteArray) (n : Int) (H : Heap) (i c bi ai j : Nat) (oy : y.Ok) (fb : Fit b) (hs : s.size ≤ maxLen) (hd : y.dep < k) (hj : j < b.args.length)
    (hc : hpart false 1 0 i H = some (.sl 12 (l.map Seal.cells))) (h1 : hpart false 1 0 c H = some (.hp i 0)) (h2 : hpart true 5 0 bi H = some (.agg b.cells)) (h3 : hpart true 2 0 ai H = some (labA s n)) :
    evw E 172 [.lit (.int .i64 (j : Int)), .agg y.cells, .hp c 0, .hp bi 0, .hp ai 0] H = some ((match b.args[j]? with | some t => castF l k y t dynT s n | none => .bl s n).out, H) := by
  refine evw_run primsC 0 rfl rfl rfl ?_
  rw [nf172]
  have hdo := ih y b.args[j] dynT s n H i oy (fb.arg (List.getElem_mem hj)) dynT_fit hs hd hc
  simp only [aggS, bind_some', Val.cells_len, b10, condT, Val.re, h1, dyn121, onOut_ret, sameH_self, h2, h3, part171 b j hj, hdo, List.getElem?_eq_getElem hj]
  cases castF l k y b.args[j] dynT s n with
  | bl p q => rfl
  | ok z => simp only [Got.out, onOut_ret, aggS, bind_some', Val.cells_len, b10, condT, Val.re]
omit hl in
theorem turn173 (y : Val) (a b : Ty) (s : ByteArray) (n : Int) (H : Heap) (i c bi ai aa j : Nat) (oy : y.Ok) (fa : Fit a) (fb : Fit b) (hs : s.size ≤ maxLen) (hd : y.dep < k) (hj : j < b.args.length) (hjl : j < b.labels.length)
    (hc : hpart false 1 0 i H = some (.sl 12 (l.map Seal.cells))) (h1 : hpart false 1 0 c H = some (.hp i 0)) (h0 : hpart true 5 0 aa H = some (.agg a.cells)) (h2 : hpart true 5 0 bi H = some (.agg b.cells)) (h2' : hpart false 1 3 bi H = some (.sl 1 (b.labels.map strC))) (h3 : hpart true 2 0 ai H = some (labA s n)) :
    evw E 173 [.lit (.int .i64 (j : Int)), .agg y.cells, .hp aa 0, .hp bi 0, .hp ai 0, .hp c 0] H = some ((match fieldT a (b.labels.getD j ByteArray.empty) with | none => Got.bl s n | some t => match b.args[j]? with | some u => castF l k y t u s n | none => .bl s n).out, H) := by
  refine evw_run primsC 0 rfl rfl rfl ?_
  rw [nf173]
  simp only [aggS, bind_some', Val.cells_len, b10, condT, Val.re, h1, onOut_ret, sameH_self, h0, h2, h2', h3, indexA_map _ _ _ _ hjl, part_str, field174 a fa.ok, tupS, t20, t21, Ty.cells_len, b5, Ty.refold, notB, boolB, blame149]
  rw [show b.labels.getD j ByteArray.empty = b.labels[j] from by rw [List.getD_eq_getElem?_getD, List.getElem?_eq_getElem hjl]; rfl]
  cases ht : fieldT a b.labels[j] with
  | none => rfl
  | some t =>
    have ft : Fit t := by
      unfold fieldT at ht
      cases ht8 : eqd a.k 8 with
      | false => rw [ht8] at ht; cases ht
      | true =>
        rw [ht8, cond_true, Option.bind_eq_some_iff] at ht
        obtain ⟨q, _, ht⟩ := ht
        exact fa.arg (List.mem_of_getElem? ht)
    have hdo := ih y t b.args[j] s n H i oy ft (fb.arg (List.getElem_mem hj)) hs hd hc
    simp only [Option.isSome_some, Bool.not_true, condF, Option.getD_some, part171 b j hj, onOut_ret, hdo, List.getElem?_eq_getElem hj, sameH_self]
    cases castF l k y t b.args[j] s n with
    | bl p q => rfl
    | ok z => simp only [Got.out, onOut_ret, aggS, bind_some', Val.cells_len, b10, condT, Val.re]

omit hl ih in
theorem field_dep {v y : Val} {x : ByteArray} (hy : fieldV v x = some y) (hd : v.dep ≤ k) : y.dep < k := by
  obtain ⟨h1, h2⟩ := fieldV_mem hy
  have := dep_kid (show eqd v.k 6 = false from eqd_f (by rw [h2]; decide)) h1
  omega

omit hl in
theorem records154 (v : Val) (a b : Ty) (s : ByteArray) (n : Int) (h : Heap) (i : Nat) (ov : v.Ok) (fa : Fit a) (fb : Fit b) (hb8 : b.k = 8) (hs : s.size ≤ maxLen) (hd : v.dep ≤ k) (hc : hpart false 1 0 i h = some (.sl 12 (l.map Seal.cells))) :
    evw E 154 [.hp i 0, .agg v.cells, .agg a.cells, .agg b.cells, labA s n] h = some ((recsF (castF l k) v a b s n).out, h) := by
  refine evw_run primsC 0 rfl rfl rfl ?_
  rw [nf154]
  simp only [aggS, bind_some', Val.cells_len, Ty.cells_len, b10, b5, b2, condT, g0, g1, Val.re]
  have hlen := (right_rec fb.right hb8).2
  have hf := fields169 (fun i y => match fieldT a (b.labels.getD i ByteArray.empty) with | none => .bl s n | some t => match b.args[i]? with | some u => castF l k y t u s n | none => .bl s n) v ov b.labels fb.lab s n
    (.fn 173 [] [.hp ((h ++ ([[.v (.hp i 0)]] : Heap))).length 0, .hp (((h ++ ([[.v (.hp i 0)]] : Heap)) ++ ([tyB a] : Heap))).length 0, .hp ((((h ++ ([[.v (.hp i 0)]] : Heap)) ++ ([tyB a] : Heap)) ++ ([tyB b] : Heap))).length 0, .hp h.length 0])
    ((((h ++ ([[.v (.hp i 0)]] : Heap)) ++ ([tyB a] : Heap)) ++ ([tyB b] : Heap)) ++ ([atB s n] : Heap)) (fun j hj y hy => by
      rw [applyC]
      exact turn173 ih y a b s n _ i _ _ _ _ j (ov.kid (fieldV_mem hy).1) fa fb hs (field_dep hy hd) (by omega) hj
        (hp_left _ (hp_left _ (hp_left _ (hp_left _ hc)))) ((hp4_0 ..).trans (pHp i)) ((hp4_1 ..).trans (pT a)) ((hp4_2 ..).trans (pT b)) ((hp4_2 ..).trans (pT3 b)) ((hp4_3 ..).trans (pAt s n)))
  rw [hp4_2, hp4_3, pT3, pAt, bind_some', bind_some', hf]
  show _ = some ((recsF (castF l k) v a b s n).out, h)
  unfold recsF
  cases fieldsF (fun i y => match fieldT a (b.labels.getD i ByteArray.empty) with | none => .bl s n | some t => match b.args[i]? with | some u => castF l k y t u s n | none => .bl s n) v b.labels s n with
  | bl p q =>
    rw [show (Got.bl p q).out = .pan (.ifc 110 (labA p q)) from rfl, onOut_pan]
    exact tr4 (H := E.hint 154) (by kernel_rfl) h _ _ _ _ (Got.out_lt (.bl p q) _)
  | ok z =>
    simp only [Got.out, onOut_ret, aggS, bind_some', Val.cells_len, b10, condT, Val.re]
    exact tr4 (H := E.hint 154) (by kernel_rfl) h _ _ _ _ (Got.out_lt (.ok z) _)

theorem out151 (v : Val) (b : Ty) (s : ByteArray) (n : Int) (h : Heap) (i : Nat) (ov : v.Ok) (fb : Fit b) (hs : s.size ≤ maxLen) (hd : v.dep ≤ k) (hc : hpart false 1 0 i h = some (.sl 12 (l.map Seal.cells))) :
    evw E 151 [.hp i 0, .agg v.cells, .agg b.cells, labA s n] h = some ((outF (castF l k) l v b s n).out, h) := by
  refine evw_run primsC 0 rfl rfl rfl ?_
  rw [nf151]
  have hc3 : hpart false 1 0 i (((h ++ ([[.v (.hp i 0)]] : Heap)) ++ ([tyB b] : Heap)) ++ ([atB s n] : Heap)) = some (.sl 12 (l.map Seal.cells)) := hp_left _ (hp_left _ (hp_left _ hc))
  have hend : ∀ (g : Got), onOut (some (g.out, (((h ++ ([[.v (.hp i 0)]] : Heap)) ++ ([tyB b] : Heap)) ++ ([atB s n] : Heap)))) (fun a h' => (aggOf a).bind fun l => cond (Nat.beq l.length 10) (trunc (E.hint 151) h (.ret (.agg [l.getD 0 .dead, l.getD 1 .dead, l.getD 2 .dead, l.getD 3 .dead, l.getD 4 .dead, l.getD 5 .dead, l.getD 6 .dead, l.getD 7 .dead, l.getD 8 .dead, l.getD 9 .dead])) h') none) (fun _ _ _ => none) (fun p h' => trunc (E.hint 151) h (.pan p) h') = some (g.out, h) := by
    intro g
    cases g with
    | bl p q =>
      rw [show (Got.bl p q).out = .pan (.ifc 110 (labA p q)) from rfl, onOut_pan]
      exact tr3 (H := E.hint 151) (by kernel_rfl) h _ _ _ (Got.out_lt (.bl p q) _)
    | ok z =>
      simp only [Got.out, onOut_ret, aggS, bind_some', Val.cells_len, b10, condT, Val.re]
      exact tr3 (H := E.hint 151) (by kernel_rfl) h _ _ _ (Got.out_lt (.ok z) _)
  have hret : trunc (E.hint 151) h (.ret (.agg v.cells)) (((h ++ ([[.v (.hp i 0)]] : Heap)) ++ ([tyB b] : Heap)) ++ ([atB s n] : Heap)) = some ((Got.ok v).out, h) := tr3 (H := E.hint 151) (by kernel_rfl) h _ _ _ (Got.out_lt (.ok v) _)
  simp only [aggS, bind_some', Val.cells_len, Ty.cells_len, b10, b5, b2, condT, g0, g1, Val.re, known168 v ov, onOut_ret, tupS, t20, t21, Ty.refold]
  simp only [Val.c0, Val.c1, hp3_0, hp3_1, hp3_2, pHp, pT, pT0, pT1, pAt, bind_some', bin_int, eqlE, boolB, reveal150 hl ih v b s n _ i ov fb hs hd hc3, must148]
  unfold outF
  cases g1 : eqd v.k 8 with
  | true =>
    rw [condT, cond_true]
    cases g2 : eqd b.k 9 with
    | true =>
      rw [condT, Bool.true_and]
      cases g3 : eqd b.n v.n with
      | true => rw [condT, cond_true]; exact hret
      | false => rw [condF, cond_false]; exact hend _
    | false => rw [condF, Bool.false_and, cond_false]; exact hend _
  | false =>
  rw [condF, cond_false]
  cases g2 : eqd b.k 1 with
  | true => rw [condT, cond_true]; exact hend _
  | false =>
  rw [condF, cond_false]
  cases g3 : eqd b.k 2 with
  | true => rw [condT, cond_true]; exact hend _
  | false =>
  rw [condF, cond_false]
  cases g4 : eqd b.k 3 with
  | true => rw [condT, cond_true]; exact hend _
  | false =>
  rw [condF, cond_false]
  cases g5 : eqd b.k 7 with
  | true =>
    rw [condT, cond_true]
    have hw := wrap153 (knownV v).1 (knownV v).2 b (knownV_good (m := v.dep) ⟨ov, Nat.le_refl _⟩).2 s n (((h ++ ([[.v (.hp i 0)]] : Heap)) ++ ([tyB b] : Heap)) ++ ([atB s n] : Heap))
    rw [hw]
    exact hend _
  | false =>
  rw [condF, cond_false]
  cases g6 : eqd b.k 8 with
  | false =>
    rw [condF, cond_false, blame149, show (Got.bl s n).out = .pan (.ifc 110 (labA s n)) from rfl, onOut_pan]
    exact tr3 (H := E.hint 151) (by kernel_rfl) h _ _ _ (Got.out_lt (.bl s n) _)
  | true =>
    rw [condT, cond_true]
    have hlen := (right_rec fb.right (eqd_iff.1 g6)).2
    have hf := fun caps (hcaps : caps = [AV.hp h.length 0, .hp (h ++ ([[.v (.hp i 0)]] : Heap)).length 0, .hp ((h ++ ([[.v (.hp i 0)]] : Heap)) ++ ([tyB b] : Heap)).length 0]) => fields169 (fun i y => match b.args[i]? with | some t => castF l k y dynT t s n | none => .bl s n) v ov b.labels fb.lab s n (.fn 170 [] caps)
      (((h ++ ([[.v (.hp i 0)]] : Heap)) ++ ([tyB b] : Heap)) ++ ([atB s n] : Heap)) (fun j hj y hy => by
        rw [applyC, hcaps]
        exact turn170 ih y b s n _ i _ _ _ j (ov.kid (fieldV_mem hy).1) fb hs (field_dep hy hd) (by omega) hc3 ((hp3_0 ..).trans (pHp i)) ((hp3_1 ..).trans (pT b)) ((hp3_2 ..).trans (pAt s n)))
    have hf := hf _ rfl
    rw [pT3, bind_some', hf]
    exact hend _
end
end Go.Sh.T

/- Casts: the program's cast, in whole. -/
namespace Go.Sh.T
open Go Go.Sh
set_option linter.unusedSimpArgs false
set_option linter.unusedVariables false
set_option maxRecDepth 100000

theorem gateS1 {ρ : Type} (x : Option ρ) : gateK 1 x = x := (Eq.refl _).trans rfl
section
variable {l : List Seal} (hl : SealsFit l) {k : Nat} (ih : DoOk l k)

include ih in
theorem in152 (v : Val) (b : Ty) (s : ByteArray) (n : Int) (h : Heap) (i : Nat) (ov : v.Ok) (fb : Fit b) (hs : s.size ≤ maxLen) (hd : v.dep ≤ k) (hc : hpart false 1 0 i h = some (.sl 12 (l.map Seal.cells))) :
    evw E 152 [.hp i 0, .agg v.cells, .agg b.cells, labA s n] h = some ((inF (castF l k) v b s n).out, h) := by
  refine evw_run primsC 0 rfl rfl rfl ?_
  rw [nf152]
  have hc3 : hpart false 1 0 i (((h ++ ([[.v (.hp i 0)]] : Heap)) ++ ([tyB b] : Heap)) ++ ([atB s n] : Heap)) = some (.sl 12 (l.map Seal.cells)) := hp_left _ (hp_left _ (hp_left _ hc))
  have hend : ∀ (g : Got), onOut (some (g.out, (((h ++ ([[.v (.hp i 0)]] : Heap)) ++ ([tyB b] : Heap)) ++ ([atB s n] : Heap)))) (fun a h' => (aggOf a).bind fun l => cond (Nat.beq l.length 10) (trunc (E.hint 152) h (.ret (.agg [l.getD 0 .dead, l.getD 1 .dead, l.getD 2 .dead, l.getD 3 .dead, l.getD 4 .dead, l.getD 5 .dead, l.getD 6 .dead, l.getD 7 .dead, l.getD 8 .dead, l.getD 9 .dead])) h') none) (fun _ _ _ => none) (fun p h' => trunc (E.hint 152) h (.pan p) h') = some (g.out, h) := by
    intro g
    cases g with
    | bl p q =>
      rw [show (Got.bl p q).out = .pan (.ifc 110 (labA p q)) from rfl, onOut_pan]
      exact tr3 (H := E.hint 152) (by kernel_rfl) h _ _ _ (Got.out_lt (.bl p q) _)
    | ok z =>
      simp only [Got.out, onOut_ret, aggS, bind_some', Val.cells_len, b10, condT, Val.re]
      exact tr3 (H := E.hint 152) (by kernel_rfl) h _ _ _ (Got.out_lt (.ok z) _)
  simp only [aggS, bind_some', Val.cells_len, Ty.cells_len, b10, b5, b2, condT, g0, g1, Val.re, onOut_ret, Ty.refold]
  simp only [Val.c0, Val.c1, hp3_0, hp3_1, hp3_2, pHp, pT, pT0, pT1, pAt, bind_some', bin_int, eqlE, boolB, must148, unk63, onOut_ret, sameH_self]
  unfold inF
  cases g2 : eqd b.k 1 with
  | true => rw [condT, cond_true]; exact hend _
  | false =>
  rw [condF, cond_false]
  cases g3 : eqd b.k 2 with
  | true => rw [condT, cond_true]; exact hend _
  | false =>
  rw [condF, cond_false]
  cases g4 : eqd b.k 3 with
  | true => rw [condT, cond_true]; exact hend _
  | false =>
  rw [condF, cond_false]
  cases g5 : eqd b.k 7 with
  | true =>
    rw [condT, cond_true, wrap153 v b unkT fb.ok s n]
    exact hend _
  | false =>
  rw [condF, cond_false]
  cases g6 : eqd b.k 8 with
  | false =>
    rw [condF, cond_false, blame149, show (Got.bl s n).out = .pan (.ifc 110 (labA s n)) from rfl, onOut_pan]
    exact tr3 (H := E.hint 152) (by kernel_rfl) h _ _ _ (Got.out_lt (.bl s n) _)
  | true =>
    rw [condT, cond_true]
    have hlen := (right_rec fb.right (eqd_iff.1 g6)).2
    have hf := fields169 (fun i y => match b.args[i]? with | some t => castF l k y t dynT s n | none => .bl s n) v ov b.labels fb.lab s n (.fn 172 [] [.hp h.length 0, .hp (h ++ ([[.v (.hp i 0)]] : Heap)).length 0, .hp ((h ++ ([[.v (.hp i 0)]] : Heap)) ++ ([tyB b] : Heap)).length 0])
      (((h ++ ([[.v (.hp i 0)]] : Heap)) ++ ([tyB b] : Heap)) ++ ([atB s n] : Heap)) (fun j hj y hy => by
        rw [applyC]
        exact turn172 ih y b s n _ i _ _ _ j (ov.kid (fieldV_mem hy).1) fb hs (field_dep hy hd) (by omega) hc3 ((hp3_0 ..).trans (pHp i)) ((hp3_1 ..).trans (pT b)) ((hp3_2 ..).trans (pAt s n)))
    rw [pT3, bind_some', hf]
    exact hend _

/- do, stage by stage -/
noncomputable abbrev Q108 (Sq : (Nat → List AV → Heap → R) → Nat → Heap → Heap → Nat → AV → AV → AV → AV → AV → AV → AV → AV → AV → AV → AV → AV → AV → AV → AV → AV → AV → AV → AV → AV → AV → AV → AV → AV → AV → AV → AV → AV → AV → List (List AV) → List (List AV) → List (List AV) → AV → R) (h0 h : Heap) (i : Nat) (v : Val) (a b : Ty) (s : ByteArray) (n : Int) (x : Bool) : R :=
  Sq (evw E) 1 h0 h i (v.cells.getD 0 .dead) (v.cells.getD 1 .dead) (v.cells.getD 2 .dead) (v.cells.getD 3 .dead) (v.cells.getD 4 .dead) (v.cells.getD 5 .dead) (v.cells.getD 6 .dead) (v.cells.getD 7 .dead) (v.cells.getD 8 .dead) (v.cells.getD 9 .dead)
    (a.cells.getD 0 .dead) (a.cells.getD 1 .dead) (a.cells.getD 2 .dead) (a.cells.getD 3 .dead) (a.cells.getD 4 .dead) (b.cells.getD 0 .dead) (b.cells.getD 1 .dead) (b.cells.getD 2 .dead) (b.cells.getD 3 .dead) (b.cells.getD 4 .dead)
    (.lit (.string s)) (.lit (.int .i64 n)) (.lit (.int .i64 0)) (.lit (.int .i64 0)) (.lit (.int .i64 0)) (.lit (.bool false)) (.lit (.string ByteArray.empty)) (.lit (.string ByteArray.empty)) (.lit (.int .i64 0)) [] [] [] (.lit (.bool x))
theorem outEnd (g : Got) (h : Heap) : onOut (some (g.out, h)) (fun a h' => (aggOf a).bind fun l => cond (Nat.beq l.length 10) (some (.ret (.agg [l.getD 0 .dead, l.getD 1 .dead, l.getD 2 .dead, l.getD 3 .dead, l.getD 4 .dead, l.getD 5 .dead, l.getD 6 .dead, l.getD 7 .dead, l.getD 8 .dead, l.getD 9 .dead]), h')) none) (fun _ _ _ => none) (fun p h' => some (.pan p, h')) = some (g.out, h) := by
  cases g with
  | bl p q => rfl
  | ok z => simp only [Got.out, onOut_ret, aggS, bind_some', Val.cells_len, b10, condT, Val.re]

variable (v : Val) (a b : Ty) (s : ByteArray) (n : Int) (h0 h : Heap) (i : Nat) (ov : v.Ok) (fa : Fit a) (fb : Fit b) (hs : s.size ≤ maxLen) (hd : v.dep ≤ k) (hc : hpart false 1 0 i h = some (.sl 12 (l.map Seal.cells)))
include ih ov fa fb hs hd hc
theorem d3 (x : Bool) (hx : x = true → b.k = 8) : Q108 Sq108_3 h0 h i v a b s n x = some ((bif x then recsF (castF l k) v a b s n else .bl s n).out, h) := by
  show Sq108_3 _ _ _ _ _ _ _ _ _ _ _ _ _ _ _ _ _ _ _ _ _ _ _ _ _ _ _ _ _ _ _ _ _ _ _ _ _ _ = _
  rw [Sq108_3_eq, gateS1, boolB, bind_some']
  simp only [Val.re, Ty.refold]
  cases x with
  | true =>
    rw [condT, cond_true, records154 ih v a b s n h i ov fa fb (hx rfl) hs hd hc]
    exact outEnd _ _
  | false =>
    rw [condF, cond_false, blame149]; rfl
theorem d2 (x : Bool) : Q108 Sq108_2 h0 h i v a b s n x = some ((bif x then wrapV v a b s n else bif eqd a.k 8 && eqd b.k 8 then recsF (castF l k) v a b s n else .bl s n).out, h) := by
  have h3 := d3 ih v a b s n h0 h i ov fa fb hs hd hc
  try simp only [Q108] at h3
  show Sq108_2 _ _ _ _ _ _ _ _ _ _ _ _ _ _ _ _ _ _ _ _ _ _ _ _ _ _ _ _ _ _ _ _ _ _ _ _ _ _ = _
  rw [Sq108_2_eq, gateS1, boolB, bind_some']
  simp only [Val.re, Ty.refold]
  cases x with
  | true =>
    rw [condT, cond_true, wrap153 v a b fa.ok s n]
    exact outEnd _ _
  | false =>
    rw [condF, cond_false]
    have e1 : binAV E .eql 3 (a.cells.getD 0 .dead) (.lit (.int .i64 8)) = some (.lit (.bool (eqd a.k 8))) := by rw [Ty.c0, bin_int, eqlE]
    have e2 : binAV E .eql 3 (b.cells.getD 0 .dead) (.lit (.int .i64 8)) = some (.lit (.bool (eqd b.k 8))) := by rw [Ty.c0, bin_int, eqlE]
    rw [e1, bind_some', boolB, bind_some', e2, bind_some']
    cases ha : eqd a.k 8 with
    | true => rw [condT, Bool.true_and]; exact h3 _ fun e => eqd_iff.1 e
    | false => rw [condF, Bool.false_and]; exact h3 false fun e => by cases e
include hl
theorem d1 (x : Bool) : Q108 Sq108_1 h0 h i v a b s n x = some ((bif x then .ok v else bif a.loose then outF (castF l k) l v b s n else bif b.loose then inF (castF l k) v a s n else bif eqd a.k 7 && eqd b.k 7 then wrapV v a b s n else bif eqd a.k 8 && eqd b.k 8 then recsF (castF l k) v a b s n else .bl s n).out, h) := by
  have h3 := d2 ih v a b s n h0 h i ov fa fb hs hd hc
  try simp only [Q108] at h3
  show Sq108_1 _ _ _ _ _ _ _ _ _ _ _ _ _ _ _ _ _ _ _ _ _ _ _ _ _ _ _ _ _ _ _ _ _ _ _ _ _ _ = _
  rw [Sq108_1_eq, gateS1, boolB, bind_some']
  simp only [Val.re, Ty.refold, loose147, onOut_ret, boolB, bind_some', out151 hl ih v b s n h i ov fb hs hd hc, in152 ih v a s n h i ov fa hs hd hc, outEnd]
  cases x with
  | true => rfl
  | false =>
    rw [condF, cond_false]
    cases a.loose with
    | true => rfl
    | false =>
    rw [condF, cond_false]
    cases b.loose with
    | true => rfl
    | false =>
    rw [condF, cond_false]
    have e1 : binAV E .eql 3 (a.cells.getD 0 .dead) (.lit (.int .i64 7)) = some (.lit (.bool (eqd a.k 7))) := by rw [Ty.c0, bin_int, eqlE]
    have e2 : binAV E .eql 3 (b.cells.getD 0 .dead) (.lit (.int .i64 7)) = some (.lit (.bool (eqd b.k 7))) := by rw [Ty.c0, bin_int, eqlE]
    rw [e1, bind_some', boolB, bind_some', e2, bind_some']
    cases ha : eqd a.k 7 with
    | true => rw [condT, Bool.true_and]; exact h3 _
    | false => rw [condF, Bool.false_and]; exact h3 false
theorem d0 (x : Bool) (hx : x = (eqd a.k 9 && b.loose)) : Q108 Sq108_0 h0 h i v a b s n x = some ((bif x then Got.ok v else bif eqd a.k 9 then (bif eqd v.k 8 && eqd v.n a.n then revealF (castF l k) l v b s n else .bl s n) else bif a.loose && b.loose then .ok v else bif a.loose then outF (castF l k) l v b s n else bif b.loose then inF (castF l k) v a s n else bif eqd a.k 7 && eqd b.k 7 then wrapV v a b s n else bif eqd a.k 8 && eqd b.k 8 then recsF (castF l k) v a b s n else .bl s n).out, h) := by
  have h3 := d1 hl ih v a b s n h0 h i ov fa fb hs hd hc
  try simp only [Q108] at h3
  show Sq108_0 _ _ _ _ _ _ _ _ _ _ _ _ _ _ _ _ _ _ _ _ _ _ _ _ _ _ _ _ _ _ _ _ _ _ _ _ _ _ = _
  rw [Sq108_0_eq, gateS1, boolB, bind_some']
  simp only [Val.re, Ty.refold, loose147, onOut_ret, boolB, bind_some', must148, reveal150 hl ih v b s n h i ov fb hs hd hc, outEnd]
  cases x with
  | true => rfl
  | false =>
    rw [condF, cond_false]
    have e1 : binAV E .eql 3 (a.cells.getD 0 .dead) (.lit (.int .i64 9)) = some (.lit (.bool (eqd a.k 9))) := by rw [Ty.c0, bin_int, eqlE]
    rw [e1, bind_some', boolB, bind_some']
    cases ha : eqd a.k 9 with
    | true =>
      rw [condT, cond_true]
      cases hv : eqd v.k 8 with
      | false => rfl
      | true =>
        have e2 : partA false 1 1 v.cells = some (.lit (.int .i64 v.n)) := by rw [Val.cells_eq]; rfl
        rw [cond_true, show (Got.ok v).out = .ret (.agg v.cells) from rfl, onOut_ret, aggS, bind_some', e2, bind_some', Ty.c1, bin_int, neqE, bind_some', boolB, bind_some', Bool.true_and]
        cases eqd v.n a.n with
        | true =>
          rw [Bool.not_true, condF, cond_true, reveal150 hl ih v b s n h i ov fb hs hd hc]
          exact outEnd _ _
        | false => rw [Bool.not_false, condT, cond_false, blame149]; rfl
    | false =>
      rw [condF, cond_false]
      cases ha : a.loose with
      | true =>
        rw [condT, Bool.true_and]
        have := h3 b.loose
        rw [ha] at this; exact this
      | false =>
        rw [condF, Bool.false_and]
        have := h3 false
        rw [ha] at this; exact this
theorem do108_step : evw E 108 [.hp i 0, .agg v.cells, .agg a.cells, .agg b.cells, labA s n] h = some ((castF l (k + 1) v a b s n).out, h) := by
  refine evw_run primsC 1 rfl rfl rfl ?_
  rw [nf108]
  have h3 := fun x hx => d0 hl ih v a b s n h h i ov fa fb hs hd hc x hx
  try simp only [Q108] at h3
  simp only [aggS, bind_some', Val.cells_len, Ty.cells_len, b10, b5, b2, condT, g0, g1]
  simp only [Val.re, Ty.refold, same101 a b _ fa.ok, onOut_ret, boolB, bind_some', loose147]
  show _ = some ((stepF (castF l k) l v a b s n).out, h)
  unfold stepF
  cases eqd a b with
  | true => rfl
  | false =>
    rw [condF, cond_false]
    have e1 : binAV E .eql 3 (a.cells.getD 0 .dead) (.lit (.int .i64 9)) = some (.lit (.bool (eqd a.k 9))) := by rw [Ty.c0, bin_int, eqlE]
    rw [e1, bind_some', boolB, bind_some']
    cases ha : eqd a.k 9 with
    | true =>
      rw [condT, Bool.true_and]
      have := h3 b.loose (by rw [ha, Bool.true_and])
      rw [ha] at this
      exact this
    | false =>
      rw [condF, Bool.false_and]
      have := h3 false (by rw [ha, Bool.false_and])
      rw [ha] at this
      exact this
end

theorem do108 {l : List Seal} (hl : SealsFit l) : ∀ k, DoOk l k
  | 0 => fun v a b s n h i ov fa fb hs hd hc => by omega
  | k + 1 => fun v a b s n h i ov fa fb hs hd hc => do108_step hl (do108 hl k) v a b s n h i ov fa fb hs (by omega) hc

noncomputable def castV (l : List Seal) (v : Val) (a b : Ty) (s : ByteArray) (n : Int) : Got := castF l (v.dep + 1) v a b s n
def Got.tup3 : Got → AV
  | .ok v => .tup [.agg v.cells, labA ByteArray.empty 0, .lit (.bool true)]
  | .bl s n => .tup [.agg zeroV.cells, labA s n, .lit (.bool false)]

/- cast.Do -/
theorem heap4 (h : Heap) (es : List (List AV)) : CD.H4 h es = h ++ [CD.zvC, CD.labC, [.v (.lit (.bool false))], [.v (.sl 12 es)]] := by simp [CD.H4, CD.H3, CD.H2, CD.H1]
theorem len1 (h : Heap) : (CD.H1 h).length = h.length + 1 := by simp [CD.H1]
theorem len2 (h : Heap) : (CD.H2 h).length = h.length + 2 := by simp [CD.H2, CD.H1]
theorem hstoreA (h hs : Heap) (i : Nat) (off : Nat) (l : List Cell) : hstore (h ++ hs) (h.length + i) off l = (hstore hs i off l).map (h ++ ·) := hstore_app h hs i off l
theorem do59 (l : List Seal) (hl : SealsFit l) (v : Val) (a b : Ty) (s : ByteArray) (n : Int) (h : Heap) (ov : v.Ok) (fa : Fit a) (fb : Fit b) (hs : s.size ≤ maxLen) :
    evw E 59 [.sl 12 (l.map Seal.cells), .agg v.cells, .agg a.cells, .agg b.cells, labA s n] h = some (.ret (castV l v a b s n).tup3, h) := by
  refine evw_prim primsC (p := p59) (by rfl) ?_
  have hd := do108 hl (v.dep + 1) v a b s n (CD.H4 h (l.map Seal.cells)) (CD.H3 h).length ov fa fb hs (Nat.lt_succ_self _) (by
    show hpart false 1 0 (CD.H3 h).length (CD.H3 h ++ [[.v (.sl 12 (l.map Seal.cells))]]) = _
    rw [hpart_app0]; rfl)
  have kF := CD.kF (evw E) h (l.map Seal.cells) (.lit (.int .i64 v.k)) (.lit (.int .i64 v.n)) (.lit (.int .i64 v.m)) (.lit (.bool v.inn)) (.lit (.string v.s)) (.lit (.string v.df)) (.lit (.int .i64 v.nd)) (.sl 5 (v.types.map Ty.cells)) (.sl 1 (v.labels.map strC)) (.sl 10 (v.kids.map Val.cells))
    (.lit (.int .i64 a.k)) (.lit (.int .i64 a.n)) (.lit (.string a.name)) (.sl 1 (a.labels.map strC)) (.sl 5 (a.args.map Ty.cells)) (.lit (.int .i64 b.k)) (.lit (.int .i64 b.n)) (.lit (.string b.name)) (.sl 1 (b.labels.map strC)) (.sl 5 (b.args.map Ty.cells)) (.lit (.string s)) (.lit (.int .i64 n))
  rw [← Val.cells_eq v, ← Ty.cells_eq a, ← Ty.cells_eq b, hd] at kF
  rw [kF]
  have hm2 : ∀ q : Nat × Bool, True := fun _ => trivial
  change p59 (fun _ _ _ => some ((castV l v a b s n).out, _)) _ h = _
  have hz : CD.zvC.map Cell.get = zeroV.cells := by rw [zeroV_cells]; rfl
  cases castV l v a b s n with
  | ok w =>
    have kR := CD.kR h (CD.H4 h (l.map Seal.cells)) (l.map Seal.cells) (.lit (.int .i64 v.k)) (.lit (.int .i64 v.n)) (.lit (.int .i64 v.m)) (.lit (.bool v.inn)) (.lit (.string v.s)) (.lit (.string v.df)) (.lit (.int .i64 v.nd)) (.sl 5 (v.types.map Ty.cells)) (.sl 1 (v.labels.map strC)) (.sl 10 (v.kids.map Val.cells))
      (.lit (.int .i64 a.k)) (.lit (.int .i64 a.n)) (.lit (.string a.name)) (.sl 1 (a.labels.map strC)) (.sl 5 (a.args.map Ty.cells)) (.lit (.int .i64 b.k)) (.lit (.int .i64 b.n)) (.lit (.string b.name)) (.sl 1 (b.labels.map strC)) (.sl 5 (b.args.map Ty.cells))
      (.lit (.int .i64 w.k)) (.lit (.int .i64 w.n)) (.lit (.int .i64 w.m)) (.lit (.bool w.inn)) (.lit (.string w.s)) (.lit (.string w.df)) (.lit (.int .i64 w.nd)) (.sl 5 (w.types.map Ty.cells)) (.sl 1 (w.labels.map strC)) (.sl 10 (w.kids.map Val.cells)) (.lit (.string s)) (.lit (.int .i64 n))
    rw [← Val.cells_eq v, ← Ty.cells_eq a, ← Ty.cells_eq b, ← Val.cells_eq w] at kR
    refine kR.trans ?_
    rw [heap4, len1, len2, hstore_app0, show hstore ([CD.zvC, CD.labC, [.v (.lit (.bool false))], [.v (.sl 12 (l.map Seal.cells))]] : Heap) 0 0 [.v (.lit (.int .i64 w.k)), .v (.lit (.int .i64 w.n)), .v (.lit (.int .i64 w.m)), .v (.lit (.bool w.inn)), .v (.lit (.string w.s)), .v (.lit (.string w.df)), .v (.lit (.int .i64 w.nd)), .v (.sl 5 (w.types.map Ty.cells)), .v (.sl 1 (w.labels.map strC)), .v (.sl 10 (w.kids.map Val.cells))] = some [[.v (.lit (.int .i64 w.k)), .v (.lit (.int .i64 w.n)), .v (.lit (.int .i64 w.m)), .v (.lit (.bool w.inn)), .v (.lit (.string w.s)), .v (.lit (.string w.df)), .v (.lit (.int .i64 w.nd)), .v (.sl 5 (w.types.map Ty.cells)), .v (.sl 1 (w.labels.map strC)), .v (.sl 10 (w.kids.map Val.cells))], CD.labC, [.v (.lit (.bool false))], [.v (.sl 12 (l.map Seal.cells))]] from rfl]
    generalize hwc : ([.v (.lit (.int .i64 w.k)), .v (.lit (.int .i64 w.n)), .v (.lit (.int .i64 w.m)), .v (.lit (.bool w.inn)), .v (.lit (.string w.s)), .v (.lit (.string w.df)), .v (.lit (.int .i64 w.nd)), .v (.sl 5 (w.types.map Ty.cells)), .v (.sl 1 (w.labels.map strC)), .v (.sl 10 (w.kids.map Val.cells))] : List Cell) = wc
    have hwz : wc.map Cell.get = w.cells := by rw [← hwc, Val.cells_eq]; rfl
    rw [Option.map_some, bind_some', hstoreA, show hstore ([wc, CD.labC, [.v (.lit (.bool false))], [.v (.sl 12 (l.map Seal.cells))]] : Heap) 1 0 CD.labC = some [wc, CD.labC, [.v (.lit (.bool false))], [.v (.sl 12 (l.map Seal.cells))]] from rfl, Option.map_some, bind_some', hstoreA, show hstore ([wc, CD.labC, [.v (.lit (.bool false))], [.v (.sl 12 (l.map Seal.cells))]] : Heap) 2 0 [.v (.lit (.bool true))] = some [wc, CD.labC, [.v (.lit (.bool true))], [.v (.sl 12 (l.map Seal.cells))]] from rfl, Option.map_some, bind_some', hpart_app0, hpart_app, hpart_app]
    rw [show hpart true 10 0 0 ([wc, CD.labC, [.v (.lit (.bool true))], [.v (.sl 12 (l.map Seal.cells))]] : Heap) = some (.agg w.cells) from by
      show partA true 10 0 (wc.map Cell.get) = _
      rw [hwz]; exact partA_full (Val.cells_len _)]
    show trunc CD.H59 h (.ret (.tup [.agg w.cells, labA ByteArray.empty 0, .lit (.bool true)])) (h ++ _) = _
    refine trunc_app (H := CD.H59) rfl ?_
    exact .tup fun x hx => by
      simp only [List.mem_cons, List.not_mem_nil, or_false] at hx
      rcases hx with e | e | e
      · rw [e]; exact .agg (Val.cells_lt _ w)
      · rw [e]; exact .agg fun y hy => by
          simp only [List.mem_cons, List.not_mem_nil, or_false] at hy
          rcases hy with e | e <;> (rw [e]; exact .lit _)
      · rw [e]; exact .lit _
  | bl p q =>
    have kP := CD.kP h (CD.H4 h (l.map Seal.cells)) (l.map Seal.cells) (.lit (.int .i64 v.k)) (.lit (.int .i64 v.n)) (.lit (.int .i64 v.m)) (.lit (.bool v.inn)) (.lit (.string v.s)) (.lit (.string v.df)) (.lit (.int .i64 v.nd)) (.sl 5 (v.types.map Ty.cells)) (.sl 1 (v.labels.map strC)) (.sl 10 (v.kids.map Val.cells))
      (.lit (.int .i64 a.k)) (.lit (.int .i64 a.n)) (.lit (.string a.name)) (.sl 1 (a.labels.map strC)) (.sl 5 (a.args.map Ty.cells)) (.lit (.int .i64 b.k)) (.lit (.int .i64 b.n)) (.lit (.string b.name)) (.sl 1 (b.labels.map strC)) (.sl 5 (b.args.map Ty.cells))
      (.lit (.string s)) (.lit (.int .i64 n)) (.lit (.string p)) (.lit (.int .i64 q))
    rw [← Val.cells_eq v, ← Ty.cells_eq a, ← Ty.cells_eq b] at kP
    refine kP.trans ?_
    rw [heap4, len1, len2, hstore_app0, show hstore ([CD.zvC, CD.labC, [.v (.lit (.bool false))], [.v (.sl 12 (l.map Seal.cells))]] : Heap) 0 0 CD.zvC = some [CD.zvC, CD.labC, [.v (.lit (.bool false))], [.v (.sl 12 (l.map Seal.cells))]] from rfl, Option.map_some, bind_some', hstoreA, show hstore ([CD.zvC, CD.labC, [.v (.lit (.bool false))], [.v (.sl 12 (l.map Seal.cells))]] : Heap) 1 0 [.v (.lit (.string p)), .v (.lit (.int .i64 q))] = some [CD.zvC, [.v (.lit (.string p)), .v (.lit (.int .i64 q))], [.v (.lit (.bool false))], [.v (.sl 12 (l.map Seal.cells))]] from rfl, Option.map_some, bind_some', hstoreA, show hstore ([CD.zvC, [.v (.lit (.string p)), .v (.lit (.int .i64 q))], [.v (.lit (.bool false))], [.v (.sl 12 (l.map Seal.cells))]] : Heap) 2 0 [.v (.lit (.bool false))] = some [CD.zvC, [.v (.lit (.string p)), .v (.lit (.int .i64 q))], [.v (.lit (.bool false))], [.v (.sl 12 (l.map Seal.cells))]] from rfl, Option.map_some, bind_some', hpart_app0, hpart_app, hpart_app]
    rw [show hpart true 10 0 0 ([CD.zvC, [.v (.lit (.string p)), .v (.lit (.int .i64 q))], [.v (.lit (.bool false))], [.v (.sl 12 (l.map Seal.cells))]] : Heap) = some (.agg zeroV.cells) from by
      show partA true 10 0 (CD.zvC.map Cell.get) = _
      rw [hz]; exact partA_full (Val.cells_len _)]
    show trunc CD.H59 h (.ret (.tup [.agg zeroV.cells, labA p q, .lit (.bool false)])) (h ++ _) = _
    refine trunc_app (H := CD.H59) rfl ?_
    exact .tup fun x hx => by
      simp only [List.mem_cons, List.not_mem_nil, or_false] at hx
      rcases hx with e | e | e
      · rw [e]; exact .agg (Val.cells_lt _ _)
      · rw [e]; exact .agg fun y hy => by
          simp only [List.mem_cons, List.not_mem_nil, or_false] at hy
          rcases hy with e | e <;> (rw [e]; exact .lit _)
      · rw [e]; exact .lit _
end Go.Sh.T
