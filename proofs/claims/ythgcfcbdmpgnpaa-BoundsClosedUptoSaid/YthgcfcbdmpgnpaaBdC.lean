/- BdC: part of the proof: a shadow of the machine that is proved sound, and what the functions of this seat compute. Conditions: none. -/
import Derived.Test.YthgcfcbdmpgnpaaBdB
import Derived.Sort.Walk0
import Derived.Test.YthgcfcbdmpgnpaaShB
import Derived.Test.YthgcfcbdmpgnpaaRows
set_option linter.unusedSimpArgs false
/- Texts put in their place; what a type's variables are. -/
namespace Go.Sh.T
open Go Go.Sh
set_option linter.unusedSimpArgs false
set_option linter.unusedVariables false
set_option maxRecDepth 100000
/-- A text, put in its place in a list that rises, once. -/
def putR : List ByteArray → ByteArray → List ByteArray
  | [], s => [s]
  | x :: r, s => bif strLt x s then x :: putR r s else bif !(strLt x s || strEq x s) then s :: x :: r else x :: r
theorem putR_len (s : ByteArray) : ∀ l : List ByteArray, (putR l s).length ≤ l.length + 1
  | [] => Nat.le_refl _
  | x :: r => by
    have := putR_len s r
    rw [putR]
    cases strLt x s with
    | true => rw [cond_true, List.length_cons, List.length_cons]; omega
    | false =>
      rw [cond_false]
      cases !(false || strEq x s) with
      | true => rw [cond_true]; simp
      | false => rw [cond_false]; simp
theorem foldR_len : ∀ (l out : List ByteArray), (l.foldl putR out).length ≤ out.length + l.length
  | [], out => Nat.le_refl _
  | x :: l, out => by
    have h1 := foldR_len l (putR out x)
    have h2 := putR_len x out
    rw [List.foldl_cons, List.length_cons]; omega
theorem one_str (s : ByteArray) : AV.one (.lit (.string s)) = true := rfl
theorem ble_app (acc : List ByteArray) (s : ByteArray) (h : acc.length + 1 ≤ maxApp) : Nat.ble ((acc.map strC).length + ([[AV.lit (.string s)]] : List (List AV)).length) maxApp = true := by rw [Nat.ble_eq, List.length_map]; exact h
theorem strLt_by (x y : ByteArray) : strLt x y = decide (toB x < toB y) := by
  unfold strLt
  rw [Go.Proofs.bytesLess_eq, toList_data, toList_data]
theorem strEq_by (x y : ByteArray) : strEq x y = decide (toB x = toB y) := by
  unfold strEq
  rw [toList_data, toList_data, Bool.eq_iff_iff, beq_iff_eq, decide_eq_true_eq]
theorem putR_by (s : ByteArray) : ∀ l : List ByteArray, (putR l s).map toB = putB (l.map toB) (toB s)
  | [] => rfl
  | x :: r => by
    rw [putR, List.map_cons, putB, strLt_by, strEq_by]
    by_cases h1 : toB x < toB s
    · rw [decide_eq_true h1, cond_true, cond_true, List.map_cons, putR_by s r]
    · rw [decide_eq_false h1, cond_false, cond_false, Bool.false_or]
      by_cases h2 : toB x = toB s
      · rw [decide_eq_true h2, Bool.not_true, cond_false, h2, decide_eq_false (by_irrefl _), cond_false]
        rw [List.map_cons, h2]
      · rw [decide_eq_false h2, Bool.not_false, cond_true]
        have h3 : toB s < toB x := by_lt_of (List.not_lt.1 h1) (fun e => h2 e.symm)
        rw [decide_eq_true h3, cond_true]; rfl
theorem foldR_by : ∀ (l out : List ByteArray), (l.foldl putR out).map toB = (l.map toB).foldl putB (out.map toB)
  | [], out => rfl
  | x :: l, out => by rw [List.foldl_cons, foldR_by l, putR_by, List.map_cons, List.foldl_cons]
theorem mem_toB {x : ByteArray} {l : List ByteArray} : toB x ∈ l.map toB ↔ x ∈ l := by
  constructor
  · intro h
    obtain ⟨y, hy, e⟩ := List.mem_map.1 h
    have : y = x := by rw [← ofB_toB y, ← ofB_toB x, e]
    rw [← this]; exact hy
  · exact fun h => List.mem_map.2 ⟨x, h, rfl⟩
theorem foldR_mem {x : ByteArray} {l out : List ByteArray} : x ∈ l.foldl putR out ↔ x ∈ l ∨ x ∈ out := by
  rw [← mem_toB, foldR_by, foldB_mem, mem_toB, mem_toB]
theorem foldR_rise {l out : List ByteArray} (h : (out.map toB).Pairwise (· < ·)) : ((l.foldl putR out).map toB).Pairwise (· < ·) := by rw [foldR_by]; exact foldB_rise _ _ h
/-- A list that rises, and has what is gathered, is what comes of sorting and compacting. -/
theorem riseL_eq {l m : List ByteArray} (hr : (m.map toB).Pairwise (· < ·)) (hm : ∀ x, x ∈ l ↔ x ∈ m) : riseL l = m := by
  unfold riseL
  have : riseB (l.map toB) = m.map toB := by
    refine rise_same _ _ (riseB_rise _) hr fun z => ?_
    rw [riseB_mem]
    constructor
    · intro h
      obtain ⟨y, hy, rfl⟩ := List.mem_map.1 h
      exact mem_toB.2 ((hm y).1 hy)
    · intro h
      obtain ⟨y, hy, rfl⟩ := List.mem_map.1 h
      exact mem_toB.2 ((hm y).2 hy)
  rw [this, map_ofB]
/- the program's -/
mutual
/-- The document's variables. -/
def Ty.rvars : Ty → List ByteArray
  | ⟨k, n, s, ls, xs⟩ => Ty.rvarsL xs (bif k == 6 then [s] else [])
def Ty.rvarsL : List Ty → List ByteArray → List ByteArray
  | [], out => out
  | x :: r, out => Ty.rvarsL r (x.rvars.foldl putR out)
end
theorem Ty.rvars_eq (t : Ty) : t.rvars = Ty.rvarsL t.args (bif t.k == 6 then [t.name] else []) := by cases t; rw [Ty.rvars]
mutual
theorem Ty.rvars_len : ∀ e : Ty, e.rvars.length ≤ e.pre.length
  | ⟨k, n, s, ls, xs⟩ => by
    have := Ty.rvarsL_len xs (bif k == 6 then [s] else [])
    rw [Ty.rvars, Ty.pre, List.length_cons]
    have h1 : (bif k == 6 then [s] else []).length ≤ 1 := by cases k == 6 <;> simp
    omega
theorem Ty.rvarsL_len : ∀ (l : List Ty) (out : List ByteArray), (Ty.rvarsL l out).length ≤ out.length + (Ty.preL l).length
  | [], out => by rw [Ty.rvarsL]; exact Nat.le_add_right _ _
  | x :: r, out => by
    have h1 := Ty.rvars_len x
    have h2 := Ty.rvarsL_len r (x.rvars.foldl putR out)
    have h3 := foldR_len x.rvars out
    rw [Ty.rvarsL, Ty.preL, List.length_append]
    omega
end
mutual
theorem Ty.rvars_rise : ∀ e : Ty, (e.rvars.map toB).Pairwise (· < ·)
  | ⟨k, n, s, ls, xs⟩ => by
    rw [Ty.rvars]
    refine Ty.rvarsL_rise xs _ ?_
    cases k == 6 with
    | true => exact List.pairwise_singleton _ _
    | false => exact List.Pairwise.nil
theorem Ty.rvarsL_rise : ∀ (l : List Ty) (out : List ByteArray), (out.map toB).Pairwise (· < ·) → ((Ty.rvarsL l out).map toB).Pairwise (· < ·)
  | [], out, h => by rw [Ty.rvarsL]; exact h
  | x :: r, out, h => by rw [Ty.rvarsL]; exact Ty.rvarsL_rise r _ (foldR_rise h)
end
def varsN (l : List Ty) : List ByteArray := (l.filter fun x => x.k == 6).map Ty.name
theorem varsN_append (l m : List Ty) : varsN (l ++ m) = varsN l ++ varsN m := by unfold varsN; rw [List.filter_append, List.map_append]
theorem varsN_cons (t : Ty) (m : List Ty) : varsN (t :: m) = (bif t.k == 6 then [t.name] else []) ++ varsN m := by
  unfold varsN; rw [List.filter_cons]
  cases t.k == 6 <;> rfl
theorem varsN_len (l : List Ty) : (varsN l).length ≤ l.length := by unfold varsN; rw [List.length_map]; exact List.length_filter_le _ _
mutual
theorem Ty.rvars_mem (x : ByteArray) : ∀ e : Ty, x ∈ varsN e.pre ↔ x ∈ e.rvars
  | ⟨k, n, s, ls, xs⟩ => by
    rw [Ty.pre, Ty.rvars, varsN_cons, Ty.rvarsL_mem x xs, List.mem_append]
theorem Ty.rvarsL_mem (x : ByteArray) : ∀ (l : List Ty) (out : List ByteArray), x ∈ Ty.rvarsL l out ↔ x ∈ out ∨ x ∈ varsN (Ty.preL l)
  | [], out => by rw [Ty.rvarsL, Ty.preL]; simp [varsN]
  | c :: r, out => by
    rw [Ty.rvarsL, Ty.rvarsL_mem x r, foldR_mem, ← Ty.rvars_mem x c, Ty.preL, varsN_append, List.mem_append]
    constructor
    · rintro ((h | h) | h)
      · exact .inr (.inl h)
      · exact .inl h
      · exact .inr (.inr h)
    · rintro (h | h | h)
      · exact .inl (.inr h)
      · exact .inl (.inl h)
      · exact .inr h
end
theorem vars_rise (t : Ty) : riseL (H26.V.nameL t) = t.rvars := riseL_eq (Ty.rvars_rise t) fun x => Ty.rvars_mem x t

theorem ltE_str (n : Nat) : ∀ l : List ByteArray, ltE n (l.map strC) = true
  | [] => rfl
  | s :: r => by rw [List.map_cons, ltE, ltE_str n r]; rfl
mutual
theorem Ty.ltL (n : Nat) : ∀ t : Ty, ltL n t.cells = true
  | ⟨k, m, s, ls, xs⟩ => by
    have h1 := Ty.ltE n xs
    have h2 := ltE_str n ls
    rw [Ty.cells]
    simp only [Sh.ltL, ltA, h1, h2, Bool.and_self]
theorem Ty.ltE (n : Nat) : ∀ l : List Ty, ltE n (Ty.cellsL l) = true
  | [] => rfl
  | t :: r => by rw [Ty.cellsL, Sh.ltE, Ty.ltL n t, Ty.ltE n r]; rfl
end
theorem vars29 (t : Ty) (ok : t.Ok) (hv : t.pre.length ≤ 1048576) (h : Heap) : evw E 29 [.agg t.cells] h = some (.ret (.sl 1 (t.rvars.map strC)), h) := by
  refine evw_prim primsC (p := p29) (by rfl) ?_
  have h1 := varsN_len t.pre
  have hm : maxApp = 2147483648 := rfl
  show (decC t.cells).bind _ = _
  have hn : Nat.ble (H26.V.nameL t).length maxApp = true := by
    rw [Nat.ble_eq]
    have : H26.V.nameL t = varsN t.pre := rfl
    rw [this]; omega
  rw [decC_cells, bind_some', Ty.ok_small t ok, Ty.ltL, hn, Bool.and_self, Bool.and_self, condT, vars_rise]
end Go.Sh.T

/- Bounds: what each function computes. -/
namespace Go.Sh.T
open Go Go.Sh
set_option linter.unusedSimpArgs false
set_option linter.unusedVariables false
set_option maxRecDepth 100000

theorem has34 (t : Ty) (ok : t.Ok) (k : Int) (h : Heap) : evw E 34 [.agg t.cells, .lit (.int .i64 k)] h = some (.ret (.lit (.bool (t.has k))), h) := evw_prim primsC (p := p34) (by kernel_rfl) (p34_run _ t ok k h)
def mayB (t : Ty) : Bool := t.right && (!t.has 6 && !t.has 9)
theorem may26 (t : Ty) (ok : t.Ok) (h : Heap) : evw E 26 [.agg t.cells] h = some (.ret (.lit (.bool (mayB t))), h) := by
  refine evw_run primsC 0 rfl rfl rfl ?_
  rw [nf26, aggS, bind_some', Ty.cells_len, b5, condT, Ty.refold, pright_spec _ _ ok, onOut_ret, boolB, bind_some', has34 t ok, onOut_ret, notB, bind_some', boolB, bind_some', has34 t ok, onOut_ret, notB, bind_some']
  unfold mayB
  cases t.right <;> cases t.has 6 <;> cases t.has 9 <;> rfl
theorem closed21 (t : Ty) (ok : t.Ok) (h : Heap) : evw E 21 [.agg t.cells] h = some (.ret (.lit (.bool (!t.has 6))), h) := by
  refine evw_run primsC 0 rfl rfl rfl ?_
  rw [nf21, aggS, bind_some', Ty.cells_len, b5, condT, Ty.refold, has_spec _ _ _ ok, onOut_ret, notB, bind_some']

theorem strEq_data (x s : ByteArray) : (x.data.toList == s.data.toList) = strEq x s := by
  rw [Bool.eq_iff_iff, strEq_iff, beq_iff_eq]
  constructor
  · intro h; cases x; cases s; simp only [ByteArray.mk.injEq] at *; exact Array.toList_inj.1 h
  · intro h; rw [h]
theorem seenB_eq (l : List ByteArray) (s : ByteArray) : DI.seenB l s = l.any fun x => strEq x s := by
  unfold DI.seenB
  induction l with
  | nil => rfl
  | cons x l ih => rw [List.any_cons, List.any_cons, ih, strEq_data]
/- right bounds -/
def varB (s : ByteArray) : Bool := kindR s == 2
def rightQ : List ByteArray → List Bind → Bool
  | _, [] => true
  | pre, b :: r => bif varB b.name then bif pre.any (fun x => strEq x b.name) then false else bif mayB b.ty then rightQ (pre ++ [b.name]) r else false else false
def rightP : List Bind → List ByteArray → Bool
  | [], _ => true
  | b :: r, seen => bif DI.seenB seen b.name then false else bif varB b.name then bif mayB b.ty then rightP r (b.name :: seen) else false else false
theorem rightP_Q : ∀ (l : List Bind) (pre : List ByteArray), rightP l pre.reverse = rightQ pre l
  | [], pre => rfl
  | b :: r, pre => by
    rw [rightP, rightQ, seenB_eq, List.any_reverse, show b.name :: pre.reverse = (pre ++ [b.name]).reverse from by simp, rightP_Q r (pre ++ [b.name])]
    cases varB b.name <;> cases pre.any (fun x => strEq x b.name) <;> cases mayB b.ty <;> rfl
theorem distW_eq (h : Heap) : ∀ (l : List Bind) (seen : List ByteArray), (∀ b ∈ l, b.Ok) → DI.distW (evw E) (l.map Bind.cells) seen h = some (rightP l seen, h)
  | [], seen, ok => rfl
  | b :: r, seen, ok => by
    have ob := ok b List.mem_cons_self
    rw [List.map_cons, DI.distW, rightP]
    have hn : DI.nameOf b.cells = some (b.name, b.ty.cells) := by
      unfold Bind.cells; rw [Ty.cells_eq]; rfl
    rw [hn, bind_some', show Nat.ble b.name.size maxLen = true from by rw [Nat.ble_eq]; exact ob.name, condT, pvar_spec]
    cases DI.seenB seen b.name with
    | true => rfl
    | false =>
      rw [condF, condF]
      have hb : ∀ x : Bool, DI.boolR (some (.ret (.lit (.bool x)), h)) = some (x, h) := fun _ => rfl
      rw [hb, bind_some']
      show (bif varB b.name then _ else _) = _
      cases varB b.name with
      | false => rfl
      | true =>
        rw [condT, cond_true, may26 _ ob.ty, hb, bind_some']
        show (bif mayB b.ty then _ else _) = _
        cases mayB b.ty with
        | true => exact distW_eq h r _ fun x hx => ok x (List.mem_cons_of_mem _ hx)
        | false => rfl
theorem right12 (d : List Bind) (hd : d.length ≤ 1000) (od : ∀ b ∈ d, b.Ok) (h : Heap) : evw E 12 [.sl 6 (d.map Bind.cells)] h = some (.ret (.lit (.bool (rightQ [] d))), h) := by
  refine evw_prim primsC (p := p12) (by rfl) ?_
  unfold p12
  have hm : maxApp = 2147483648 := rfl
  simp only [List.length_map, show Nat.ble d.length maxApp = true from by rw [Nat.ble_eq]; omega, condT, distW_eq h d [] od, bind_some']
  rw [← rightP_Q d []]; rfl

theorem names16 (d : List Bind) (hd : d.length ≤ 1000) (h : Heap) : evw E 16 [.sl 6 (d.map Bind.cells)] h = some (.ret (.sl 1 ((d.map Bind.name).map strC)), h) := by
  have hm : maxApp = 2147483648 := rfl
  have loop : ∀ (q i : Nat) (z : List ByteArray), i ≤ d.length → d.length < q + i → z.length + (d.length - i) ≤ 1000 → Lp16_0 (evw E) (d.length + 1) h q h (z.map strC) (.sl 6 (d.map Bind.cells)) (.lit (.int .i64 (d.length : Int))) (.lit (.int .i64 (i : Int))) = some (.ret (.sl 1 ((z ++ (d.drop i).map Bind.name).map strC)), h) := by
    intro q
    induction q with
    | zero => intro i z h1 h2; omega
    | succ q ih =>
      intro i z h1 h2 h3
      rw [Lp16_0_succ, bin_int, lssI, bind_some', boolB, bind_some']
      by_cases hi : i < d.length
      · rw [ltT hi, condT, indexA_map _ _ _ _ hi, bind_some', partA_full (Bind.len _), bind_some', aggS, bind_some', Bind.len, b6, condT, Bind.n0, one_str, condT, ble_app z _ (by omega), condT, bin_int, addI, bind_some', incI (by omega),
          show z.map strC ++ [[AV.lit (.string d[i].name)]] = (z ++ [d[i].name]).map strC from by rw [List.map_append]; rfl, ih (i + 1) _ hi (by omega) (by simp; omega), List.drop_eq_getElem_cons hi, List.map_cons (f := Bind.name), List.append_assoc z]
        rfl
      · rw [ltF hi, condF, List.drop_of_length_le (by omega), List.map_nil, List.append_nil]
  refine evw_run primsC (d.length + 1) rfl rfl rfl ?_
  rw [nf16, lenA22, bind_some', List.length_map]
  have := loop (d.length + 1) 0 [] (Nat.zero_le _) (by omega) (by simp; omega)
  rw [List.drop_zero] at this
  exact this

/- no other variables -/
noncomputable def inB (d : List Bind) (t : Ty) : Bool := t.rvars.all fun s => (findB d s).isSome
theorem in18 (d : List Bind) (hd : d.length ≤ 1000) (t : Ty) (ok : t.Ok) (hv : t.pre.length ≤ 1048576) (h : Heap) : evw E 18 [.sl 6 (d.map Bind.cells), .agg t.cells] h = some (.ret (.lit (.bool (inB d t))), h) := by
  have hlv := Ty.rvars_len t
  have hm : maxLen = 9223372036854775807 := rfl
  have loop : ∀ (q i : Nat), i ≤ t.rvars.length → t.rvars.length < q + i → Lp18_0 (evw E) (t.rvars.length + 1) h q h (.sl 6 (d.map Bind.cells)) (.sl 1 (t.rvars.map strC)) (.lit (.int .i64 (t.rvars.length : Int))) (.lit (.int .i64 (i : Int))) = some (.ret (.lit (.bool ((t.rvars.drop i).all fun s => (findB d s).isSome))), h) := by
    intro q
    induction q with
    | zero => intro i h1 h2; omega
    | succ q ih =>
      intro i h1 h2
      rw [Lp18_0_succ, bin_int, lssI, bind_some', boolB, bind_some']
      by_cases hi : i < t.rvars.length
      · rw [ltT hi, condT, indexA_map _ _ _ _ hi, bind_some', part_str, bind_some', bfind38 d (by omega), onOut_ret, tupS, bind_some', t20, bind_some', bind_some', t21, bind_some', aggS, bind_some', Ty.cells_len, b5, condT, notB, bind_some', boolB, bind_some', List.drop_eq_getElem_cons hi, List.all_cons]
        cases (findB d t.rvars[i]).isSome with
        | false => rfl
        | true => rw [Bool.not_true, condF, bin_int, addI, bind_some', incI (by omega), ih (i + 1) hi (by omega), Bool.true_and]
      · rw [ltF hi, condF, List.drop_of_length_le (by omega)]; rfl
  refine evw_run primsC (t.rvars.length + 1) rfl rfl rfl ?_
  rw [nf18, aggS, bind_some', Ty.cells_len, b5, condT, Ty.refold, vars29 t ok hv, onOut_ret, lenA23, bind_some', List.length_map]
  have := loop (t.rvars.length + 1) 0 (Nat.zero_le _) (by omega)
  rw [List.drop_zero] at this
  exact this
end Go.Sh.T

/- BoundsTell, BoundsClosed. -/
namespace Go.Sh.T
open Go Go.Sh
set_option linter.unusedSimpArgs false
set_option linter.unusedVariables false
set_option maxRecDepth 100000

def intT : Ty := ⟨1, 0, ByteArray.empty, [], []⟩
def varT (s : ByteArray) : Ty := ⟨6, 0, s, [], []⟩
theorem intT_cells : intT.cells = [.lit (.int .i64 1), .lit (.int .i64 0), .lit (.string ByteArray.empty), .sl 1 [], .sl 5 []] := by rw [Ty.cells_eq]; rfl
theorem varT_cells (s : ByteArray) : (varT s).cells = [.lit (.int .i64 6), .lit (.int .i64 0), .lit (.string s), .sl 1 [], .sl 5 []] := by rw [Ty.cells_eq]; rfl
theorem intT_ok : intT.Ok := .mk (show (Lit.int .i64 1).wf = true by decide) (show (Lit.int .i64 0).wf = true by decide) (Nat.zero_le _) (Nat.zero_le _) (fun _ h => by cases h) (Nat.zero_le _) (fun _ h => by cases h)
theorem varT_ok {s : ByteArray} (hs : s.size ≤ maxLen) : (varT s).Ok := .mk (show (Lit.int .i64 6).wf = true by decide) (show (Lit.int .i64 0).wf = true by decide) hs (Nat.zero_le _) (fun _ h => by cases h) (Nat.zero_le _) (fun _ h => by cases h)
abbrev bX : ByteArray := ⟨#[88]⟩
abbrev bY : ByteArray := ⟨#[89]⟩
def d1 : List Bind := [⟨bX, intT⟩]
theorem d1_cells : d1.map Bind.cells = [[.lit (.string bX), .lit (.int .i64 1), .lit (.int .i64 0), .lit (.string ByteArray.empty), .sl 1 [], .sl 5 []]] := by
  show [Bind.cells ⟨bX, intT⟩] = _
  unfold Bind.cells; rw [intT_cells]
theorem d1_ok : ∀ b ∈ d1, b.Ok := fun b hb => by rw [List.mem_singleton.1 hb]; exact ⟨show (1 : Nat) ≤ maxLen by decide, intT_ok⟩
theorem findX : findB d1 bX = some intT := by
  show (bif strEq bX bX then some intT else findB [] bX) = _
  rw [strEq_iff.2 rfl]; rfl
theorem findY : findB d1 bY = none := by
  show (bif strEq bX bY then some intT else findB [] bY) = _
  have : strEq bX bY = false := by
    cases h : strEq bX bY with
    | false => rfl
    | true => exact absurd (strEq_iff.1 h) (by simp)
  rw [this]; rfl
theorem upX : upT d1 (varT bX) = (intT, true) := by
  unfold upT
  rw [show eqd (varT bX).k 6 = true from eqd_self _, cond_true, show (varT bX).name = bX from rfl, findX]
theorem right_d1 : rightQ [] d1 = true := by decide +kernel
theorem vars_var (s : ByteArray) : (varT s).rvars = [s] := by rw [Ty.rvars_eq]; unfold varT; simp [Ty.rvarsL]
theorem pre_var (s : ByteArray) : (varT s).pre.length = 1 := by unfold varT; rw [Ty.pre, Ty.preL]; rfl
theorem simple22 (k : Int) (h : Heap) : evw E 22 [.lit (.int .i64 k)] h = some (.ret (.agg [.lit (.int .i64 k), .lit (.int .i64 0), .lit (.string ByteArray.empty), .sl 1 [], .sl 5 []]), h) := by
  refine evw_run primsC 0 rfl rfl rfl ?_
  rw [nf22]; rfl
theorem var23 (s : ByteArray) (h : Heap) : evw E 23 [.lit (.string s)] h = some (.ret (.agg (varT s).cells), h) := by
  refine evw_run primsC 0 rfl rfl rfl ?_
  rw [nf23, varT_cells]; rfl
theorem g5 (a b c d e : AV) : ([a, b, c, d, e].getD 0 .dead) = a ∧ ([a, b, c, d, e].getD 1 .dead) = b ∧ ([a, b, c, d, e].getD 2 .dead) = c ∧ ([a, b, c, d, e].getD 3 .dead) = d ∧ ([a, b, c, d, e].getD 4 .dead) = e := ⟨rfl, rfl, rfl, rfl, rfl⟩
theorem awake7 (h : Heap) : evw E 7 [] h = some (.ret (.lit (.bool true)), h) := by
  have sX : bX.size ≤ maxLen := show (1 : Nat) ≤ maxLen by decide
  have sY : bY.size ≤ maxLen := show (1 : Nat) ≤ maxLen by decide
  refine evw_run primsC 0 rfl rfl rfl ?_
  rw [nf7, simple22, onOut_ret, aggS, bind_some', show Nat.beq ([AV.lit (.int .i64 1), .lit (.int .i64 0), .lit (.string ByteArray.empty), .sl 1 [], .sl 5 []] : List AV).length 5 = true from rfl, condT]
  simp only [(g5 _ _ _ _ _).1, (g5 _ _ _ _ _).2.1, (g5 _ _ _ _ _).2.2.1, (g5 _ _ _ _ _).2.2.2.1, (g5 _ _ _ _ _).2.2.2.2]
  rw [← d1_cells, var23, onOut_ret, up40 d1 (show (1 : Nat) ≤ maxLen by decide), onOut_ret, tupS, bind_some', t20, bind_some', bind_some', t21, bind_some', aggS, bind_some', Ty.cells_len, b5, condT, upX, boolB, bind_some', condT, Ty.c0, bin_int, eqlI, bind_some', boolB, bind_some',
    show ((intT.k : Int) == 1) = true from rfl, condT, right12 d1 (show (1 : Nat) ≤ 1000 by decide) d1_ok, onOut_ret, boolB, bind_some', right_d1, condT, names16 d1 (show (1 : Nat) ≤ 1000 by decide), onOut_ret, lenA23, bind_some', List.length_map, List.length_map, bin_int, eqlI, bind_some', boolB, bind_some',
    show (((d1.length : Nat) : Int) == 1) = true from rfl, condT, var23, onOut_ret, in18 d1 (show (1 : Nat) ≤ 1000 by decide) _ (varT_ok sX) (by rw [pre_var]; decide), onOut_ret, boolB, bind_some',
    show inB d1 (varT bX) = true from by unfold inB; rw [vars_var, List.all_cons, findX]; rfl, condT, var23, onOut_ret, in18 d1 (show (1 : Nat) ≤ 1000 by decide) _ (varT_ok sY) (by rw [pre_var]; decide), onOut_ret, notB, bind_some',
    show inB d1 (varT bY) = false from by unfold inB; rw [vars_var, List.all_cons, findY]; rfl]
  rfl

theorem few_len {d : List Bind} (h : decide (few16 d > 200) = false) : d.length ≤ 20 := by
  unfold few16 at h
  by_cases hl : (d.length : Int) > 20
  · rw [decide_eq_true hl, cond_true] at h; exact absurd h (by decide)
  · omega
theorem ty_vol {t : Ty} {m : Nat} (h : volC t.cells ≤ m) (hm : m ≤ 1048576) : volC t.cells ≤ 1048576 := Nat.le_trans h hm
theorem bs_vol {d : List Bind} {m : Nat} (h : volC [.sl 6 (d.map Bind.cells)] ≤ m) (hm : m ≤ 1048576) : volC [.sl 6 (d.map Bind.cells)] ≤ 1048576 := Nat.le_trans h hm
mutual
theorem Ty.pre_vol : ∀ c : Ty, c.pre.length ≤ volC c.cells
  | ⟨k, n, s, ls, xs⟩ => by
    have h := Ty.preL_vol xs
    rw [Ty.pre, Ty.cells, List.length_cons]; simp only [volC, Sh.vol]; omega
theorem Ty.preL_vol : ∀ l : List Ty, (Ty.preL l).length ≤ volE (Ty.cellsL l)
  | [] => Nat.zero_le _
  | t :: r => by
    have h1 := Ty.pre_vol t; have h2 := Ty.preL_vol r
    rw [Ty.preL, Ty.cellsL, volE, List.length_append]; omega
end
theorem volE_mem {α : Type} (f : α → List AV) : ∀ (l : List α) (x : α), x ∈ l → volC (f x) ≤ volE (l.map f)
  | y :: l, x, h => by
    rw [List.map_cons, volE]
    rcases List.mem_cons.1 h with e | e
    · rw [e]; omega
    · have := volE_mem f l x e; omega

theorem condB {c x : Bool} (h : (bif c then x else false) = true) : c = true ∧ x = true := by cases c <;> simp_all
theorem rightQ_mem : ∀ (l : List Bind) (pre : List ByteArray), rightQ pre l = true → ∀ b ∈ l, mayB b.ty = true
  | b :: r, pre, h, c, hc => by
    rw [rightQ] at h
    obtain ⟨h1, h⟩ := condB h
    cases h2 : pre.any (fun x => strEq x b.name) with
    | true => rw [h2, cond_true] at h; cases h
    | false =>
      rw [h2, cond_false] at h
      obtain ⟨h3, h⟩ := condB h
      rcases List.mem_cons.1 hc with e | e
      · rw [e]; exact h3
      · exact rightQ_mem r _ h c e
theorem right_leaf {a : Ty} (h : a.right = true) (h6 : a.k = 6) : a.args = [] := by
  rw [Ty.right_eq, Bool.and_eq_true] at h
  have h2 := h.2
  unfold nodeR at h2
  simp only [Bool.and_eq_true] at h2
  have h3 := h2.2
  rw [h6, show (decide ((6 : Int) ≥ 1) && decide ((6 : Int) ≤ 5)) = false from by decide, cond_false, show ((6 : Int) == 6) = true from rfl, cond_true, Bool.and_eq_true, beq_iff_eq, beq_iff_eq] at h3
  exact List.eq_nil_of_length_eq_zero (by omega)
theorem vars_none {t : Ty} (h : t.has 6 = false) : t.rvars = [] := by
  rw [Ty.has_pre] at h
  have hn : varsN t.pre = [] := by
    unfold varsN
    rw [List.filter_eq_nil_iff.2 (fun x hx => by have := (List.any_eq_false.1 h) x hx; simpa using this)]; rfl
  cases hr : t.rvars with
  | nil => rfl
  | cons x r => have := (Ty.rvars_mem x t).2 (by rw [hr]; exact List.mem_cons_self); rw [hn] at this; cases this
theorem has_root {t : Ty} (h : t.has 6 = false) : eqd t.k 6 = false := by
  rw [Ty.has_eq, Bool.or_eq_false_iff] at h
  rw [← int_eqd]; exact h.1

theorem boundsClosed_row (d : List Bind) (hd : d.length ≤ maxLen) (od : ∀ b ∈ d, b.Ok) (t : Ty) (ot : t.Ok) (hb : volC [.sl 6 (d.map Bind.cells)] ≤ 1048576) (hv : volC t.cells ≤ 1048576) (_ : List Nat) : evw E 4 [.sl 6 (d.map Bind.cells), .agg t.cells] [] = some (.ret (.lit (.bool true)), []) := by
  have hp := Nat.le_trans (Ty.pre_vol t) hv
  refine evw_run primsC 0 rfl rfl rfl ?_
  rw [nf4, aggS, bind_some', Ty.cells_len, b5, condT, Ty.refold, few16_spec d hd od, onOut_ret, bin_int, gtrI, bind_some', boolB, bind_some']
  refine cond_split (fun h1 => by rw [awake7, onOut_ret]) (fun h1 => ?_)
  have hd2 : d.length ≤ 1000 := Nat.le_trans (few_len h1) (by decide)
  have hm : maxLen = 9223372036854775807 := rfl
  rw [much_spec _ _ ot, onOut_ret, bin_int, gtrI, bind_some', boolB, bind_some']
  refine cond_split (fun h1 => by rw [awake7, onOut_ret]) (fun h1 => ?_)
  rw [right12 d hd2 od, onOut_ret, notB, bind_some', boolB, bind_some']
  refine cond_split (fun h1 => by rw [awake7, onOut_ret]) (fun hR => ?_)
  have hR : rightQ [] d = true := by cases h : rightQ [] d with | true => rfl | false => rw [h] at hR; cases hR
  rw [right_spec _ _ ot, onOut_ret, notB, bind_some', boolB, bind_some']
  refine cond_split (fun h1 => by rw [awake7, onOut_ret]) (fun hT => ?_)
  have hT : t.right = true := by cases h : t.right with | true => rfl | false => rw [h] at hT; cases hT
  have ou : (upT d t).1.Ok := upT_ok od ot
  have h8 : ∀ h, evw E 8 [.sl 6 (d.map Bind.cells), t.cells.getD 2 .dead] h = some (.ret (.tup [.agg ((findB d t.name).getD zeroT).cells, .lit (.bool (findB d t.name).isSome)]), h) := fun h => by rw [Ty.c2]; exact bfind38 d hd t.name h
  simp only [up40 d hd, h8, onOut_ret, tupS, bind_some', t20, t21, aggS, Ty.cells_len, b5, condT, Ty.refold, notB, boolB]
  cases hk : eqd t.k 6 with
  | false =>
    have e1 : upT d t = (t, false) := by unfold upT; rw [hk]; rfl
    simp only [e1, Bool.not_false, Bool.not_true, condT, condF, same23 _ _ _ ot, eqd_self, onOut_ret, boolB, bind_some', eT', neqE, hk, awake7]
  | true =>
    cases hf : findB d t.name with
    | none =>
      have e1 : upT d t = (t, false) := by unfold upT; rw [hk, cond_true, hf]
      simp only [e1, Bool.not_false, Bool.not_true, condT, condF, same23 _ _ _ ot, eqd_self, onOut_ret, boolB, bind_some', eT', neqE, hk, awake7, Option.isSome_none]
    | some u =>
      have e1 : upT d t = (u, true) := by unfold upT; rw [hk, cond_true, hf]
      obtain ⟨b, hbm, hbu⟩ := findB_mem hf
      have ou : u.Ok := by rw [← hbu]; exact (od b hbm).ty
      have hmay := rightQ_mem d [] hR b hbm
      rw [hbu] at hmay
      unfold mayB at hmay
      simp only [Bool.and_eq_true, Bool.not_eq_true'] at hmay
      have h6 := hmay.2.1
      have e2 : upT d u = (u, false) := by unfold upT; rw [has_root h6]; rfl
      have hup : u.pre.length ≤ 1048576 := by
        have h1 := Ty.pre_vol u
        have h2 := volE_mem Bind.cells d b hbm
        have h3 : volC b.cells = Sh.vol (.lit (.string b.name)) + volC b.ty.cells := (Eq.refl _).trans rfl
        have h4 : volC [.sl 6 (d.map Bind.cells)] = Sh.vol (.sl 6 (d.map Bind.cells)) + 0 := (Eq.refl _).trans rfl
        have h5 : volE (d.map Bind.cells) ≤ Sh.vol (.sl 6 (d.map Bind.cells)) := by simp only [Sh.vol]; omega
        rw [hbu] at h3; omega
      have hin0 : inB [] u = true := by unfold inB; rw [vars_none h6]; rfl
      have h18 := in18 [] (show (0 : Nat) ≤ 1000 by decide) u ou hup
      rw [List.map_nil] at h18
      have hk6 : t.k = 6 := by rw [← int_eqd] at hk; simpa using hk
      have hin : inB d t = true := by
        unfold inB
        have : t.rvars = [t.name] := by rw [Ty.rvars_eq, right_leaf hT hk6, hk6]; rfl
        rw [this, List.all_cons, hf]; rfl
      simp only [e1, e2, hf, Bool.not_false, Bool.not_true, condT, condF, same23 _ _ _ ou, eqd_self, onOut_ret, boolB, bind_some', Option.getD_some, Option.isSome_some, closed21 _ ou, h6, h18, hin0, in18 d hd2 t ot hp, hin, awake7]
end Go.Sh.T

namespace Go.Sh.T
open Go Go.Sh Go.Proofs
set_option linter.unusedSimpArgs false
set_option linter.unusedVariables false
theorem ty22 : E.ty 22 = some ti22 := by kernel_rfl
theorem ty41 : E.ty 41 = some ti41 := by kernel_rfl
theorem bind_of {vs : List AV} (h : TypedC E 41 vs) : ∃ s : Bind, vs = s.cells ∧ s.Ok := by
  cases h with
  | bool h hd b => rw [ty41] at h; cases h; cases hd
  | int h hd hw => rw [ty41] at h; cases h; cases hd
  | str h hd hs => rw [ty41] at h; cases h; cases hd
  | sl h hd hj hl hes => rw [ty41] at h; cases h; cases hd
  | struct h hd hf =>
    rw [ty41] at h; cases h; cases hd
    cases hf with
    | cons h1 hf =>
    cases hf with
    | cons h2 hf =>
    cases hf
    obtain ⟨x, rfl, hx⟩ := str_of h1 ty9
    obtain ⟨y, rfl, hy⟩ := ty_of h2
    exact ⟨⟨x, y⟩, by simp [Bind.cells, strC], ⟨hx, hy⟩⟩
theorem binds_ofE : ∀ {es : List (List AV)}, TypedE E 41 es → ∃ l : List Bind, es = l.map Bind.cells ∧ ∀ s ∈ l, s.Ok
  | [], _ => ⟨[], rfl, fun _ h => by cases h⟩
  | _ :: _, .cons h hr => by
    obtain ⟨s, rfl, hs⟩ := bind_of h
    obtain ⟨l, rfl, hl⟩ := binds_ofE hr
    exact ⟨s :: l, rfl, fun x hx => by
      rcases List.mem_cons.1 hx with e | e
      · rw [e]; exact hs
      · exact hl x e⟩
theorem binds_of {vs : List AV} (h : TypedC E 22 vs) : ∃ l : List Bind, vs = [.sl 6 (l.map Bind.cells)] ∧ l.length ≤ maxLen ∧ ∀ s ∈ l, s.Ok := by
  cases h with
  | bool h hd b => rw [ty22] at h; cases h; cases hd
  | int h hd hw => rw [ty22] at h; cases h; cases hd
  | str h hd hs => rw [ty22] at h; cases h; cases hd
  | struct h hd hf => rw [ty22] at h; cases h; cases hd
  | sl h hd hj hl hes =>
    rw [ty22] at h; cases h; cases hd
    rw [ty41] at hj; cases hj
    obtain ⟨l, rfl, hs⟩ := binds_ofE hes
    exact ⟨l, rfl, by simpa using hl, hs⟩
def flatTs : List Nat := [3, 4, 9, 22, 23, 24, 26, 41]
theorem flatTs_ok : flatAll E flatTs = true := by kernel_rfl

mutual
theorem dsz_le {H : Type} : ∀ d : DataW H, dsz d ≤ Ythgcfcbdmpgnpaa.Rows.uptoBulk d
  | .lit l => by cases l <;> simp [dsz, Ythgcfcbdmpgnpaa.Rows.uptoBulk]
  | .nil => by simp [dsz, Ythgcfcbdmpgnpaa.Rows.uptoBulk]
  | .ptr d => by simp [dsz, Ythgcfcbdmpgnpaa.Rows.uptoBulk]
  | .slice e s => by have := dszL_le e; simp only [dsz, Ythgcfcbdmpgnpaa.Rows.uptoBulk]; omega
  | .agg p => by have := dszL_le p; simp only [dsz, Ythgcfcbdmpgnpaa.Rows.uptoBulk]; omega
  | .iface _ d => by simp [dsz, Ythgcfcbdmpgnpaa.Rows.uptoBulk]
  | .map _ => by simp [dsz, Ythgcfcbdmpgnpaa.Rows.uptoBulk]
  | .held _ => by simp [dsz, Ythgcfcbdmpgnpaa.Rows.uptoBulk]
theorem dszL_le {H : Type} : ∀ l : List (DataW H), dszL l ≤ Ythgcfcbdmpgnpaa.Rows.uptoBulkAll l
  | [] => by simp [dszL, Ythgcfcbdmpgnpaa.Rows.uptoBulkAll]
  | d :: r => by have := dsz_le d; have := dszL_le r; simp only [dszL, Ythgcfcbdmpgnpaa.Rows.uptoBulkAll]; omega
end
end Go.Sh.T
