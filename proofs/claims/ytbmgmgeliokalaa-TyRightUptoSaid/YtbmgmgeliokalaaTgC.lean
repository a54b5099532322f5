/- TgC: part of the proof: a shadow of the machine that is proved sound, and what the functions of this seat compute. Conditions: none. -/
import Derived.Test.YtbmgmgeliokalaaTgB
import Derived.Test.YtbmgmgeliokalaaTgT
import Derived.Sort.Walk0
set_option linter.unusedSimpArgs false
/- The types' functions, of the same doing as in the seats of Exp and Bounds. -/
namespace Go.Sh.T
open Go Go.Sh
set_option linter.unusedSimpArgs false
set_option linter.unusedVariables false
set_option maxRecDepth 100000
/- Sameness of expressions and definitions; how much they have. -/
theorem b7 : Nat.beq 7 7 = true := rfl
theorem b5 : Nat.beq 5 5 = true := rfl
/- bindings, signatures, definitions -/
/- how much -/
/- Depth and At: the document's and the program's. -/
def mx (x y : Int) : Int := if y > x then y else x
theorem maxs1 (x y : Int) : maxs (.lit (.int .i64 x)) [.lit (.int .i64 y)] = some (.lit (.int .i64 (mx x y))) := (Eq.refl _).trans rfl
mutual
def Ty.deep : Ty → Int
  | ⟨_, _, _, _, xs⟩ => add64 (Ty.deepL 0 xs) 1
def Ty.deepL (acc : Int) : List Ty → Int
  | [] => acc
  | t :: r => Ty.deepL (mx acc t.deep) r
end
theorem Ty.deep_eq (t : Ty) : t.deep = add64 (Ty.deepL 0 t.args) 1 := by cases t; rw [Ty.deep]
theorem deep47 : ∀ (t : Ty) (h : Heap), t.Ok → evw E 13 [.agg t.cells] h = some (.ret (.lit (.int .i64 t.deep)), h)
  | t, h, ok => by
    have hlen := ok.len
    have loop : ∀ (q i : Nat) (acc : Int), i ≤ t.args.length → t.args.length < q + i → Lp13_0 (evw E) (t.args.length + 1) h q h (.lit (.int .i64 acc)) (.sl 5 (t.args.map Ty.cells)) (.lit (.int .i64 (t.args.length : Int))) (.lit (.int .i64 (i : Int))) = some (.ret (.lit (.int .i64 (add64 (Ty.deepL acc (t.args.drop i)) 1))), h) := by
      intro q
      induction q with
      | zero => intro i acc h1 h2; omega
      | succ q ih =>
        intro i acc h1 h2
        rw [Lp13_0_succ, bin_int, lssI, bind_some', boolB, bind_some']
        by_cases hi : i < t.args.length
        · have hrec := deep47 (t.args[i]) h (ok.arg (List.getElem_mem hi))
          rw [ltT hi, condT, indexA_map _ _ _ _ hi, bind_some', partA_full (Ty.cells_len _), bind_some', aggS, bind_some', Ty.cells_len, b5, condT, Ty.refold, hrec, onOut_ret, maxs1, bind_some', bin_int, addI, bind_some', incI (by omega), ih (i + 1) _ hi (by omega), List.drop_eq_getElem_cons hi, Ty.deepL]
        · rw [ltF hi, condF, List.drop_of_length_le (by omega), Ty.deepL, bin_int, addI, bind_some']
    refine evw_run primsC (t.args.length + 1) rfl rfl rfl ?_
    rw [nf13, aggS, bind_some', Ty.cells_len, b5, condT, Ty.c4, lenA23, bind_some', List.length_map, Ty.deep_eq]
    have := loop (t.args.length + 1) 0 0 (Nat.zero_le _) (by omega)
    rw [List.drop_zero] at this
    exact this
  termination_by t => SizeOf.sizeOf t
  decreasing_by exact Ty.size_arg hi
theorem deep48 : ∀ (t : Ty) (h : Heap), t.Ok → evw E 14 [.agg t.cells] h = some (.ret (.lit (.int .i64 t.deep)), h)
  | t, h, ok => by
    have hlen := ok.len
    have loop : ∀ (x0 x1 x2 x3 : AV) (q i : Nat) (acc : Int), i ≤ t.args.length → t.args.length < q + i → Lp14_0 (evw E) (t.args.length + 1) h q h x0 x1 x2 x3 (.sl 5 (t.args.map Ty.cells)) (.lit (.int .i64 acc)) (.lit (.int .i64 (i : Int))) = some (.ret (.lit (.int .i64 (add64 (Ty.deepL acc (t.args.drop i)) 1))), h) := by
      intro x0 x1 x2 x3 q
      induction q with
      | zero => intro i acc h1 h2; omega
      | succ q ih =>
        intro i acc h1 h2
        rw [Lp14_0_succ, lenA23, bind_some', List.length_map, bin_int, lssI, bind_some', boolB, bind_some']
        by_cases hi : i < t.args.length
        · have hrec := deep48 (t.args[i]) h (ok.arg (List.getElem_mem hi))
          rw [ltT hi, condT, indexA_map _ _ _ _ hi, bind_some', partA_full (Ty.cells_len _), bind_some', hrec, onOut_ret, maxs1, bind_some', bin_int, addI, bind_some', incI (by omega), ih (i + 1) _ hi (by omega), List.drop_eq_getElem_cons hi, Ty.deepL]
        · rw [ltF hi, condF, List.drop_of_length_le (by omega), Ty.deepL, bin_int, addI, bind_some']
    refine evw_run primsC (t.args.length + 1) rfl rfl rfl ?_
    rw [nf14, aggS, bind_some', Ty.cells_len, b5, condT, Ty.c0, Ty.c1, Ty.c2, Ty.c3, Ty.c4, Ty.deep_eq]
    have := loop (.lit (.int .i64 t.k)) (.lit (.int .i64 t.n)) (.lit (.string t.name)) (.sl 1 (t.labels.map strC)) (t.args.length + 1) 0 0 (Nat.zero_le _) (by omega)
    rw [List.drop_zero] at this
    exact this
  termination_by t => SizeOf.sizeOf t
  decreasing_by exact Ty.size_arg hi
/- At, by definition -/
/- The expressions within an expression: Count, At, Nodes. -/

/- how many nodes -/
/- parts of an expression -/
/- Count -/
theorem cntW_eq' : ∀ (l : List AV) (n : Int), 0 ≤ n → n + l.length ≤ 4294967296 → H34.N.cntW l n = n + l.length
  | [], n, _, _ => by rw [H34.N.cntW]; simp
  | x :: l, n, h0, h => by
    rw [List.length_cons] at h
    rw [H34.N.cntW, IntWalk.i64_in _ (by omega), cntW_eq' l (n + 1) (by omega) (by omega), List.length_cons]; omega
/- At -/
/- Nodes -/
mutual
theorem Ty.nodes_pre : ∀ t : Ty, t.pre.length ≤ 4294967296 → t.nodes = (t.pre.length : Int)
  | ⟨k, n, s, ls, xs⟩, h => by
    rw [Ty.pre, List.length_cons] at h
    rw [Ty.nodes, Ty.nodesL_pre xs 1 (by omega) (by omega), Ty.pre, List.length_cons]; omega
theorem Ty.nodesL_pre : ∀ (l : List Ty) (acc : Int), 1 ≤ acc → acc + (Ty.preL l).length ≤ 4294967297 → Ty.nodesL acc l = acc + (Ty.preL l).length
  | [], acc, _, _ => by rw [Ty.nodesL, Ty.preL]; simp
  | t :: r, acc, h0, h => by
    rw [Ty.preL, List.length_append] at h
    rw [Ty.nodesL, Ty.nodes_pre t (by omega), IntWalk.i64_in _ (by omega), Ty.nodesL_pre r _ (by omega) (by omega), Ty.preL, List.length_append]; omega
end
/- ExpDefs. -/

/- the types that a definition promises -/
/- how large, how deep -/
theorem nodes45 (t : Ty) (ok : t.Ok) (hp : t.pre.length ≤ 1048576) (h : Heap) : evw E 11 [.agg t.cells] h = some (.ret (.lit (.int .i64 t.nodes)), h) := by
  refine evw_prim primsC (p := p11) (by rfl) ?_
  rw [p11_run _ t ok, cntW_eq' _ _ (by omega) (by rw [List.length_map]; omega), Ty.nodes_pre t (by omega), List.length_map]
  simp
/- What is free, and called: the document's lists and the program's. -/
def putR : List ByteArray → ByteArray → List ByteArray
  | [], s => [s]
  | x :: r, s => bif strLt x s then x :: putR r s else bif !(strLt x s || strEq x s) then s :: x :: r else x :: r
theorem putR_len (s : ByteArray) : ∀ l : List ByteArray, (putR l s).length ≤ l.length + 1
  | [] => Nat.le_refl _
  | x :: r => by
    have := putR_len s r
    rw [putR]
    cases strLt x s with
    | true => rw [cond_true, List.length_cons, List.length_cons]; omega
    | false =>
      rw [cond_false]
      cases !(false || strEq x s) with
      | true => rw [cond_true]; simp
      | false => rw [cond_false]; simp
theorem foldR_len : ∀ (l out : List ByteArray), (l.foldl putR out).length ≤ out.length + l.length
  | [], out => Nat.le_refl _
  | x :: l, out => by
    have h1 := foldR_len l (putR out x)
    have h2 := putR_len x out
    rw [List.foldl_cons, List.length_cons]; omega
theorem geqS (x y : ByteArray) : strBin .geq x y = some (.lit (.bool (!strLt x y))) := (Eq.refl _).trans rfl
theorem gtrS (x y : ByteArray) : strBin .gtr x y = some (.lit (.bool (!(strLt x y || strEq x y)))) := (Eq.refl _).trans rfl
theorem one_str (s : ByteArray) : AV.one (.lit (.string s)) = true := rfl
theorem app_str (acc : List ByteArray) (s : ByteArray) : acc.map strC ++ [[AV.lit (.string s)]] = (acc ++ [s]).map strC := by rw [List.map_append]; rfl
theorem ble_app (acc : List ByteArray) (s : ByteArray) (h : acc.length + 1 ≤ maxApp) : Nat.ble ((acc.map strC).length + ([[AV.lit (.string s)]] : List (List AV)).length) maxApp = true := by rw [Nat.ble_eq, List.length_map]; exact h
theorem put55 (l : List ByteArray) (hl : l.length + 1 ≤ maxApp) (s : ByteArray) (h : Heap) : evw E 41 [.sl 1 (l.map strC), .lit (.string s)] h = some (.own 1 ((putR l s).map strC), h) := by
  have hm : maxApp = 2147483648 := rfl
  have done : ∀ (q i : Nat) (acc : List ByteArray), i ≤ l.length → l.length < q + i → acc.length + (l.drop i).length ≤ maxApp → Lp41_0 (evw E) (l.length + 1) h q h (.sl 1 (l.map strC)) (.lit (.string s)) (acc.map strC) (.lit (.bool true)) (.lit (.int .i64 (i : Int))) = some (.own 1 ((acc ++ l.drop i).map strC), h) := by
    intro q
    induction q with
    | zero => intro i acc h1 h2; omega
    | succ q ih =>
      intro i acc h1 h2 h3
      rw [Lp41_0_succ, lenA22, bind_some', List.length_map, bin_int, lssI, bind_some', boolB, bind_some']
      by_cases hi : i < l.length
      · rw [List.drop_eq_getElem_cons hi, List.length_cons] at h3
        rw [ltT hi, condT, notB, bind_some', boolB, bind_some', Bool.not_true, condF, indexA_map _ _ _ _ hi, bind_some', part_str, bind_some', one_str, condT, ble_app _ _ (by omega), condT, bin_int, addI, bind_some', incI (by omega), app_str, ih (i + 1) _ hi (by omega) (by rw [List.length_append, List.length_singleton]; omega), List.drop_eq_getElem_cons hi, List.append_assoc]; rfl
      · rw [ltF hi, condF, notB, bind_some', boolB, bind_some', Bool.not_true, condF, List.drop_of_length_le (by omega), List.append_nil]
  have loop : ∀ (q i : Nat) (acc : List ByteArray), i ≤ l.length → l.length < q + i → acc.length + (l.drop i).length + 1 ≤ maxApp → Lp41_0 (evw E) (l.length + 1) h q h (.sl 1 (l.map strC)) (.lit (.string s)) (acc.map strC) (.lit (.bool false)) (.lit (.int .i64 (i : Int))) = some (.own 1 ((acc ++ putR (l.drop i) s).map strC), h) := by
    intro q
    induction q with
    | zero => intro i acc h1 h2; omega
    | succ q ih =>
      intro i acc h1 h2 h3
      rw [Lp41_0_succ, lenA22, bind_some', List.length_map, bin_int, lssI, bind_some', boolB, bind_some']
      by_cases hi : i < l.length
      · rw [List.drop_eq_getElem_cons hi, List.length_cons] at h3
        rw [ltT hi, condT, notB, bind_some', boolB, bind_some', Bool.not_false, condT, indexA_map _ _ _ _ hi, bind_some', part_str, bind_some', bin_str, geqS, bind_some', boolB, bind_some', List.drop_eq_getElem_cons hi, putR]
        cases h1 : strLt l[i] s with
        | true =>
          rw [Bool.not_true, condF, cond_true, bind_some', part_str, bind_some', one_str, condT, ble_app _ _ (by omega), condT, bin_int, addI, bind_some', incI (by omega), app_str, ih (i + 1) _ hi (by omega) (by rw [List.length_append, List.length_singleton]; omega), List.append_assoc]; rfl
        | false =>
          rw [Bool.not_false, condT, cond_false, bind_some', part_str, bind_some', bin_str, gtrS, h1, bind_some', boolB, bind_some']
          cases h2' : !(false || strEq l[i] s) with
          | true =>
            rw [condT, cond_true, one_str, condT, ble_app _ _ (by omega), condT, app_str, bind_some', part_str, bind_some', one_str, condT, ble_app _ _ (by rw [List.length_append, List.length_singleton]; omega), condT, bin_int, addI, bind_some', incI (by omega), app_str, done q (i + 1) _ hi (by omega) (by rw [List.length_append, List.length_append, List.length_singleton, List.length_singleton]; omega), List.append_assoc, List.append_assoc]; rfl
          | false =>
            rw [condF, cond_false, bind_some', part_str, bind_some', one_str, condT, ble_app _ _ (by omega), condT, bin_int, addI, bind_some', incI (by omega), app_str, done q (i + 1) _ hi (by omega) (by rw [List.length_append, List.length_singleton]; omega), List.append_assoc]; rfl
      · rw [List.drop_of_length_le (show l.length ≤ i by omega)] at h3 ⊢
        rw [List.length_nil] at h3
        rw [ltF hi, condF, notB, bind_some', boolB, bind_some', Bool.not_false, condT, one_str, condT, ble_app _ _ (by omega), condT, app_str, putR]
  refine evw_run primsC (l.length + 1) rfl rfl rfl ?_
  rw [nf41]
  have := loop (l.length + 1) 0 [] (Nat.zero_le _) (by omega) (by rw [List.drop_zero, List.length_nil]; omega)
  rw [List.drop_zero] at this
  exact this
theorem onOut_own {ρ : Type} (n : Nat) (es : List (List AV)) (h : Heap) (k1 : AV → Heap → Option ρ) (k2 : Nat → List (List AV) → Heap → Option ρ) (k3 : AV → Heap → Option ρ) : onOut (some (.own n es, h)) k1 k2 k3 = k2 n es h := (Eq.refl _).trans rfl
/- What is free, and called, is the same; ExpTells. -/
theorem strLt_by (x y : ByteArray) : strLt x y = decide (toB x < toB y) := by
  unfold strLt
  rw [Go.Proofs.bytesLess_eq, toList_data, toList_data]
theorem strEq_by (x y : ByteArray) : strEq x y = decide (toB x = toB y) := by
  unfold strEq
  rw [toList_data, toList_data, Bool.eq_iff_iff, beq_iff_eq, decide_eq_true_eq]
theorem putR_by (s : ByteArray) : ∀ l : List ByteArray, (putR l s).map toB = putB (l.map toB) (toB s)
  | [] => rfl
  | x :: r => by
    rw [putR, List.map_cons, putB, strLt_by, strEq_by]
    by_cases h1 : toB x < toB s
    · rw [decide_eq_true h1, cond_true, cond_true, List.map_cons, putR_by s r]
    · rw [decide_eq_false h1, cond_false, cond_false, Bool.false_or]
      by_cases h2 : toB x = toB s
      · rw [decide_eq_true h2, Bool.not_true, cond_false, h2, decide_eq_false (by_irrefl _), cond_false]
        rw [List.map_cons, h2]
      · rw [decide_eq_false h2, Bool.not_false, cond_true]
        have h3 : toB s < toB x := by_lt_of (List.not_lt.1 h1) (fun e => h2 e.symm)
        rw [decide_eq_true h3, cond_true]; rfl
theorem foldR_by : ∀ (l out : List ByteArray), (l.foldl putR out).map toB = (l.map toB).foldl putB (out.map toB)
  | [], out => rfl
  | x :: l, out => by rw [List.foldl_cons, foldR_by l, putR_by, List.map_cons, List.foldl_cons]
theorem mem_toB {x : ByteArray} {l : List ByteArray} : toB x ∈ l.map toB ↔ x ∈ l := by
  constructor
  · intro h
    obtain ⟨y, hy, e⟩ := List.mem_map.1 h
    have : y = x := by rw [← ofB_toB y, ← ofB_toB x, e]
    rw [← this]; exact hy
  · exact fun h => List.mem_map.2 ⟨x, h, rfl⟩
theorem foldR_mem {x : ByteArray} {l out : List ByteArray} : x ∈ l.foldl putR out ↔ x ∈ l ∨ x ∈ out := by
  rw [← mem_toB, foldR_by, foldB_mem, mem_toB, mem_toB]
theorem foldR_rise {l out : List ByteArray} (h : (out.map toB).Pairwise (· < ·)) : ((l.foldl putR out).map toB).Pairwise (· < ·) := by rw [foldR_by]; exact foldB_rise _ _ h
theorem riseL_eq {l m : List ByteArray} (hr : (m.map toB).Pairwise (· < ·)) (hm : ∀ x, x ∈ l ↔ x ∈ m) : riseL l = m := by
  unfold riseL
  have : riseB (l.map toB) = m.map toB := by
    refine rise_same _ _ (riseB_rise _) hr fun z => ?_
    rw [riseB_mem]
    constructor
    · intro h
      obtain ⟨y, hy, rfl⟩ := List.mem_map.1 h
      exact mem_toB.2 ((hm y).1 hy)
    · intro h
      obtain ⟨y, hy, rfl⟩ := List.mem_map.1 h
      exact mem_toB.2 ((hm y).2 hy)
  rw [this, map_ofB]
/- calls -/
/- the program's -/
/- Texts put in their place; what a type's variables are. -/
/- the program's -/
mutual
def Ty.rvars : Ty → List ByteArray
  | ⟨k, n, s, ls, xs⟩ => Ty.rvarsL xs (bif k == 6 then [s] else [])
def Ty.rvarsL : List Ty → List ByteArray → List ByteArray
  | [], out => out
  | x :: r, out => Ty.rvarsL r (x.rvars.foldl putR out)
end
theorem Ty.rvars_eq (t : Ty) : t.rvars = Ty.rvarsL t.args (bif t.k == 6 then [t.name] else []) := by cases t; rw [Ty.rvars]
mutual
theorem Ty.rvars_len : ∀ e : Ty, e.rvars.length ≤ e.pre.length
  | ⟨k, n, s, ls, xs⟩ => by
    have := Ty.rvarsL_len xs (bif k == 6 then [s] else [])
    rw [Ty.rvars, Ty.pre, List.length_cons]
    have h1 : (bif k == 6 then [s] else []).length ≤ 1 := by cases k == 6 <;> simp
    omega
theorem Ty.rvarsL_len : ∀ (l : List Ty) (out : List ByteArray), (Ty.rvarsL l out).length ≤ out.length + (Ty.preL l).length
  | [], out => by rw [Ty.rvarsL]; exact Nat.le_add_right _ _
  | x :: r, out => by
    have h1 := Ty.rvars_len x
    have h2 := Ty.rvarsL_len r (x.rvars.foldl putR out)
    have h3 := foldR_len x.rvars out
    rw [Ty.rvarsL, Ty.preL, List.length_append]
    omega
end
theorem Ty.preL_mem : ∀ (l : List Ty) (x : Ty), x ∈ l → x.pre.length ≤ (Ty.preL l).length := by
  intro l
  induction l with
  | nil => intro x hx; cases hx
  | cons y r ih =>
    intro x hx
    rw [Ty.preL, List.length_append]
    rcases List.mem_cons.1 hx with e | e
    · rw [e]; omega
    · have := ih x e; omega
mutual
theorem Ty.rvars_rise : ∀ e : Ty, (e.rvars.map toB).Pairwise (· < ·)
  | ⟨k, n, s, ls, xs⟩ => by
    rw [Ty.rvars]
    refine Ty.rvarsL_rise xs _ ?_
    cases k == 6 with
    | true => exact List.pairwise_singleton _ _
    | false => exact List.Pairwise.nil
theorem Ty.rvarsL_rise : ∀ (l : List Ty) (out : List ByteArray), (out.map toB).Pairwise (· < ·) → ((Ty.rvarsL l out).map toB).Pairwise (· < ·)
  | [], out, h => by rw [Ty.rvarsL]; exact h
  | x :: r, out, h => by rw [Ty.rvarsL]; exact Ty.rvarsL_rise r _ (foldR_rise h)
end
def varsN (l : List Ty) : List ByteArray := (l.filter fun x => x.k == 6).map Ty.name
theorem varsN_append (l m : List Ty) : varsN (l ++ m) = varsN l ++ varsN m := by unfold varsN; rw [List.filter_append, List.map_append]
theorem varsN_cons (t : Ty) (m : List Ty) : varsN (t :: m) = (bif t.k == 6 then [t.name] else []) ++ varsN m := by
  unfold varsN; rw [List.filter_cons]
  cases t.k == 6 <;> rfl
theorem varsN_len (l : List Ty) : (varsN l).length ≤ l.length := by unfold varsN; rw [List.length_map]; exact List.length_filter_le _ _
mutual
theorem Ty.rvars_mem (x : ByteArray) : ∀ e : Ty, x ∈ varsN e.pre ↔ x ∈ e.rvars
  | ⟨k, n, s, ls, xs⟩ => by
    rw [Ty.pre, Ty.rvars, varsN_cons, Ty.rvarsL_mem x xs, List.mem_append]
theorem Ty.rvarsL_mem (x : ByteArray) : ∀ (l : List Ty) (out : List ByteArray), x ∈ Ty.rvarsL l out ↔ x ∈ out ∨ x ∈ varsN (Ty.preL l)
  | [], out => by rw [Ty.rvarsL, Ty.preL]; simp [varsN]
  | c :: r, out => by
    rw [Ty.rvarsL, Ty.rvarsL_mem x r, foldR_mem, ← Ty.rvars_mem x c, Ty.preL, varsN_append, List.mem_append]
    constructor
    · rintro ((h | h) | h)
      · exact .inr (.inl h)
      · exact .inl h
      · exact .inr (.inr h)
    · rintro (h | h | h)
      · exact .inl (.inr h)
      · exact .inl (.inl h)
      · exact .inr h
end
theorem vars_rise (t : Ty) : riseL (H34.V.nameL t) = t.rvars := riseL_eq (Ty.rvars_rise t) fun x => Ty.rvars_mem x t

theorem ltE_str (n : Nat) : ∀ l : List ByteArray, ltE n (l.map strC) = true
  | [] => rfl
  | s :: r => by rw [List.map_cons, ltE, ltE_str n r]; rfl
mutual
theorem Ty.ltL (n : Nat) : ∀ t : Ty, ltL n t.cells = true
  | ⟨k, m, s, ls, xs⟩ => by
    have h1 := Ty.ltE n xs
    have h2 := ltE_str n ls
    rw [Ty.cells]
    simp only [Sh.ltL, ltA, h1, h2, Bool.and_self]
theorem Ty.ltE (n : Nat) : ∀ l : List Ty, ltE n (Ty.cellsL l) = true
  | [] => rfl
  | t :: r => by rw [Ty.cellsL, Sh.ltE, Ty.ltL n t, Ty.ltE n r]; rfl
end
theorem vars29 (t : Ty) (ok : t.Ok) (hv : t.pre.length ≤ 1048576) (h : Heap) : evw E 18 [.agg t.cells] h = some (.ret (.sl 1 (t.rvars.map strC)), h) := by
  refine evw_prim primsC (p := p18) (by rfl) ?_
  have h1 := varsN_len t.pre
  have hm : maxApp = 2147483648 := rfl
  show (decC t.cells).bind _ = _
  have hn : Nat.ble (H34.V.nameL t).length maxApp = true := by
    rw [Nat.ble_eq]
    have : H34.V.nameL t = varsN t.pre := rfl
    rw [this]; omega
  rw [decC_cells, bind_some', Ty.ok_small t ok, Ty.ltL, hn, Bool.and_self, Bool.and_self, condT, vars_rise]
theorem vars30 : ∀ (e : Ty) (h : Heap), e.Ok → e.pre.length ≤ 1048576 → evw E 19 [.agg e.cells] h = some (.ret (.sl 1 (e.rvars.map strC)), h)
  | e, h, ok, hv => by
    have hlen : e.args.length ≤ 9223372036854775807 := ok.len
    have hm : maxApp = 2147483648 := rfl
    have hpe : e.pre = e :: Ty.preL e.args := by cases e; rw [Ty.pre]
    rw [hpe, List.length_cons] at hv
    obtain ⟨N, hN⟩ : ∃ N, N = e.args.length + 1048578 := ⟨_, rfl⟩
    have inner : ∀ (m0 : Nat) (x0 x1 x2 x3 x4 : AV) (l : List ByteArray) (k : Int), l.length ≤ 1048576 → ∀ (q i : Nat) (out : List ByteArray), i ≤ l.length → l.length < q + i → out.length + (l.drop i).length ≤ 4194304 →
        Lp19_1 (evw E) N h m0 q h x0 x1 x2 x3 x4 1 (out.map strC) (.lit (.int .i64 k)) (.sl 1 (l.map strC)) (.lit (.int .i64 (i : Int))) = Lp19_0 (evw E) N h m0 h x0 x1 x2 x3 x4 1 (((l.drop i).foldl putR out).map strC) (.lit (.int .i64 (add64 k 1))) := by
      intro m0 x0 x1 x2 x3 x4 l k hl q
      induction q with
      | zero => intro i out h1 h2; omega
      | succ q ih =>
        intro i out h1 h2 h3
        rw [Lp19_1_succ, lenA22, bind_some', List.length_map, bin_int, lssI, bind_some', boolB, bind_some']
        by_cases hi : i < l.length
        · rw [List.drop_eq_getElem_cons hi, List.length_cons] at h3
          have hpl := putR_len l[i] out
          rw [ltT hi, condT, indexA_map _ _ _ _ hi, bind_some', part_str, bind_some', put55 out (by omega), onOut_own, bin_int, addI, bind_some', incI (by omega), ih (i + 1) _ hi (by omega) (by omega), List.drop_eq_getElem_cons hi, List.foldl_cons]
        · rw [ltF hi, condF, List.drop_of_length_le (show l.length ≤ i by omega), bin_int, addI, bind_some']; rfl
    have preT : ∀ (l : List Ty) (i : Nat) (hi : i < l.length), (Ty.preL (l.drop i)).length = (l[i]).pre.length + (Ty.preL (l.drop (i + 1))).length := fun l i hi => by
      rw [List.drop_eq_getElem_cons hi, Ty.preL, List.length_append]
    have loop : ∀ (x0 x1 x2 x3 : AV) (q i : Nat) (out : List ByteArray), i ≤ e.args.length → e.args.length < q + i → out.length + (Ty.preL (e.args.drop i)).length ≤ 1048577 →
        Lp19_0 (evw E) N h q h x0 x1 x2 x3 (.sl 5 (e.args.map Ty.cells)) 1 (out.map strC) (.lit (.int .i64 (i : Int))) = some (.ret (.sl 1 ((Ty.rvarsL (e.args.drop i) out).map strC)), h) := by
      intro x0 x1 x2 x3 q
      induction q with
      | zero => intro i out h1 h2; omega
      | succ q ih =>
        intro i out h1 h2 h3
        rw [Lp19_0_succ, lenA23, bind_some', List.length_map, bin_int, lssI, bind_some', boolB, bind_some']
        by_cases hi : i < e.args.length
        · rw [preT _ _ hi] at h3
          have oc := ok.arg (List.getElem_mem hi)
          have hkl := Ty.preL_mem e.args _ (List.getElem_mem hi)
          have hrec := vars30 (e.args[i]) h oc (by omega)
          have hrl := Ty.rvars_len e.args[i]
          have h4 := inner q x0 x1 x2 x3 (.sl 5 (e.args.map Ty.cells)) (e.args[i]).rvars (i : Int) (by omega) N 0 out (Nat.zero_le _) (by omega) (by rw [List.drop_zero]; omega)
          have h5 := foldR_len (e.args[i]).rvars out
          rw [show ((0 : Nat) : Int) = 0 from rfl, List.drop_zero] at h4
          rw [ltT hi, condT, indexA_map _ _ _ _ hi, bind_some', partA_full (Ty.cells_len _), bind_some', hrec, onOut_ret, h4, incI (by omega), ih (i + 1) _ hi (by omega) (by omega), List.drop_eq_getElem_cons hi, Ty.rvarsL]
        · rw [ltF hi, condF, List.drop_of_length_le (by omega), Ty.rvarsL]
    refine evw_run primsC N rfl rfl rfl ?_
    rw [nf19, aggS, bind_some', Ty.cells_len, b5, condT, Ty.c0, Ty.c1, Ty.c2, Ty.c3, Ty.c4, bin_int, eqlI, bind_some', boolB, bind_some', Ty.rvars_eq]
    have fin := fun out hh => loop (.lit (.int .i64 e.k)) (.lit (.int .i64 e.n)) (.lit (.string e.name)) (.sl 1 (e.labels.map strC)) N 0 out (Nat.zero_le _) (by omega) hh
    rw [List.drop_zero, show ((0 : Nat) : Int) = 0 from rfl] at fin
    cases e.k == 6 with
    | true =>
      rw [condT, one_str, condT, show Nat.ble ([[AV.lit (.string e.name)]] : List (List AV)).length maxApp = true from by show Nat.ble 1 maxApp = true; decide, condT, cond_true]
      exact fin [e.name] (by rw [List.length_singleton]; omega)
    | false =>
      rw [condF, cond_false]
      exact fin [] (by rw [List.length_nil]; omega)
  termination_by e => SizeOf.sizeOf e
  decreasing_by exact Ty.size_arg hi
end Go.Sh.T

/- TyRight, TySame, but for awake (which wants ty.Rec at one input). -/
namespace Go.Sh.T
open Go Go.Sh
set_option linter.unusedSimpArgs false
set_option linter.unusedVariables false
set_option maxRecDepth 100000

mutual
theorem Ty.pre_vol : ∀ c : Ty, c.pre.length ≤ volC c.cells
  | ⟨k, n, s, ls, xs⟩ => by
    have h := Ty.preL_vol xs
    rw [Ty.pre, Ty.cells, List.length_cons]; simp only [volC, Sh.vol]; omega
theorem Ty.preL_vol : ∀ l : List Ty, (Ty.preL l).length ≤ volE (Ty.cellsL l)
  | [] => Nat.zero_le _
  | t :: r => by
    have h1 := Ty.pre_vol t; have h2 := Ty.preL_vol r
    rw [Ty.preL, Ty.cellsL, volE, List.length_append]; omega
end
theorem ty_vol {t : Ty} {m : Nat} (h : volC t.cells ≤ m) (hm : m ≤ 1048576) : volC t.cells ≤ 1048576 := Nat.le_trans h hm
theorem has15 (t : Ty) (ok : t.Ok) (k : Int) (h : Heap) : evw E 15 [.agg t.cells, .lit (.int .i64 k)] h = some (.ret (.lit (.bool (t.has k))), h) := evw_prim primsC (p := p15) (by kernel_rfl) (p15_run _ t ok k h)
theorem fits20 (t : Ty) (ok : t.Ok) (h : Heap) : evw E 20 [.agg t.cells] h = some (.ret (.lit (.bool (!decide (t.pre.length > 300)))), h) := by
  refine evw_prim primsC (p := p20) (by kernel_rfl) ?_
  show ((decC t.cells).bind fun t => bif t.small then some (Out.ret (.lit (.bool (!decide (t.pre.length > 300)))), h) else none) = _
  rw [decC_cells, Option.bind_some, Ty.ok_small t ok]; rfl
theorem fits21 (t : Ty) (ok : t.Ok) (hv : t.pre.length ≤ 1048576) (h : Heap) : evw E 21 [.agg t.cells] h = some (.ret (.lit (.bool (!decide (t.pre.length > 300)))), h) := by
  refine evw_run primsC 0 rfl rfl rfl ?_
  rw [nf21, aggS, bind_some', Ty.cells_len, b5, condT, Ty.refold, nodes_spec _ _ ok, onOut_ret, bin_int, leqI, bind_some', Ty.nodes_pre t (by omega),
    show decide ((t.pre.length : Int) ≤ 300) = !decide (t.pre.length > 300) from by rw [Bool.eq_iff_iff]; simp; omega]
theorem tyRight_law (haw : evw E 8 [] [] = some (.ret (.lit (.bool true)), [])) (t : Ty) (ok : t.Ok) (k : Int) (hk : (Lit.int .i64 k).wf = true) (hw : volC t.cells ≤ 1048576) : evw E 3 [.agg t.cells, .lit (.int .i64 k)] [] = some (.ret (.lit (.bool true)), []) := by
  have hv := Nat.le_trans (Ty.pre_vol t) hw
  have hl := Ty.rvars_len t
  have hm : maxLen = 9223372036854775807 := rfl
  refine evw_run primsC 0 rfl rfl rfl ?_
  rw [nf3, aggS, bind_some', Ty.cells_len, b5, condT, Ty.refold, much_spec _ _ ok, onOut_ret, bin_int, gtrI, bind_some', boolB, bind_some']
  refine cond_split (fun h1 => by rw [haw, onOut_ret]) (fun h1 => ?_)
  simp only [pright_spec _ _ ok, right_spec _ _ ok, nodes45 t ok hv, nodes_spec _ _ ok, deep47 _ _ ok, deep48 _ _ ok, has15 t ok, has_spec _ _ _ ok, vars29 t ok hv, vars30 t _ ok hv, same79e t.rvars t.rvars (by omega), fits20 t ok, fits21 t ok hv, onOut_ret, eqB, bin_int, eqlI, int_eqd, eqd_self, bind_some', boolB, condT, haw]
theorem tySame_law (haw : evw E 8 [] [] = some (.ret (.lit (.bool true)), [])) (a b : Ty) (oa : a.Ok) (ob : b.Ok) : evw E 4 [.agg a.cells, .agg b.cells] [] = some (.ret (.lit (.bool true)), []) := by
  refine evw_run primsC 0 rfl rfl rfl ?_
  rw [nf4, aggS, bind_some', Ty.cells_len, b5, condT, aggS, bind_some', Ty.cells_len, b5, condT, Ty.refold, Ty.refold, much_spec _ _ oa, onOut_ret, bin_int, gtrI, bind_some', boolB, bind_some']
  refine cond_split (fun h1 => by rw [haw, onOut_ret]) (fun h1 => ?_)
  rw [much_spec _ _ ob, onOut_ret, bin_int, gtrI, bind_some', boolB, bind_some']
  refine cond_split (fun h1 => by rw [haw, onOut_ret]) (fun h1 => ?_)
  have hs : eqd b a = eqd a b := by rw [Bool.eq_iff_iff, eqd_iff, eqd_iff]; exact ⟨Eq.symm, Eq.symm⟩
  simp only [same101 _ _ _ oa, same101 _ _ _ ob, same23 _ _ _ oa, onOut_ret, eqB, eqd_self, bind_some', boolB, condT, hs, haw]
end Go.Sh.T

namespace Go.Sh.T
open Go Go.Sh
set_option linter.unusedSimpArgs false
set_option linter.unusedVariables false
set_option maxRecDepth 100000

/- opaque seals -/
/- seals in place of names -/
def idxR : List ByteArray → Int → ByteArray → Int
  | [], _, _ => -1
  | x :: r, i, s => bif strEq x s then i else idxR r (i + 1) s
theorem index_prog (l : List ByteArray) (hl : l.length ≤ maxLen) (s : ByteArray) (h : Heap) : evw E 48 [.sl 1 (l.map strC), .lit (.string s)] h = some (.ret (.lit (.int .i64 (idxR l 0 s))), h) := by
  have hl : l.length ≤ 9223372036854775807 := hl
  have loop : ∀ (q i : Nat), i ≤ l.length → l.length < q + i → Lp48_0 (evw E) (l.length + 1) h q h (.sl 1 (l.map strC)) (.lit (.string s)) (.lit (.int .i64 (l.length : Int))) (.lit (.int .i64 (i : Int))) = some (.ret (.lit (.int .i64 (idxR (l.drop i) i s))), h) := by
    intro q
    induction q with
    | zero => intro i h1 h2; omega
    | succ q ih =>
      intro i h1 h2
      rw [Lp48_0_succ, bin_int, lssI, bind_some', boolB, bind_some']
      by_cases hi : i < l.length
      · rw [ltT hi, condT, indexA_map _ _ _ _ hi, bind_some', part_str, bind_some', eqS, bind_some', boolB, bind_some', List.drop_eq_getElem_cons hi, idxR, strEq_comm s l[i]]
        cases strEq l[i] s with
        | true => rfl
        | false => rw [condF, condF, bin_int, addI, bind_some', incI (by omega)]; exact ih (i + 1) hi (by omega)
      · rw [ltF hi, condF, show l.drop i = [] from List.drop_eq_nil_of_le (by omega), idxR]
  refine evw_run primsC (l.length + 1) rfl rfl rfl ?_
  rw [nf48, lenA22, bind_some', List.length_map]
  have := loop (l.length + 1) 0 (Nat.zero_le _) (by omega)
  rw [List.drop_zero, show ((0 : Nat) : Int) = 0 from rfl] at this
  exact this

end Go.Sh.T

/- Casts: the small functions of the program and of the reference. -/
namespace Go.Sh.T
open Go Go.Sh
set_option linter.unusedSimpArgs false
set_option linter.unusedVariables false
set_option maxRecDepth 100000

theorem neqE (a b : Int) : intBin .neq .i64 a b = some (.lit (.bool (!(eqd a b)))) := by rw [neqI, int_ne]

def zeroT : Ty := ⟨0, 0, ByteArray.empty, [], []⟩
theorem zeroT_cells : zeroT.cells = [.lit (.int .i64 0), .lit (.int .i64 0), .lit (.string ByteArray.empty), .sl 1 [], .sl 5 []] := by rw [Ty.cells_eq]; rfl
/- what comes: a value, or a label -/
/- fields -/
def ix : List ByteArray → ByteArray → Option Nat
  | [], _ => none
  | x :: r, s => bif strEq x s then some 0 else (ix r s).map (· + 1)
theorem idxR_ix : ∀ (l : List ByteArray) (k : Nat) (s : ByteArray), idxR l k s = match ix l s with | some i => ((k + i : Nat) : Int) | none => -1
  | [], k, s => by rw [idxR, ix]
  | x :: r, k, s => by
    rw [idxR, ix]
    cases strEq x s with
    | true => rfl
    | false =>
      rw [cond_false, cond_false, show ((k : Int) + 1) = ((k + 1 : Nat) : Int) from rfl, idxR_ix r (k + 1) s]
      cases ix r s with
      | none => rfl
      | some i => show ((k + 1 + i : Nat) : Int) = ((k + (i + 1) : Nat) : Int); omega
noncomputable def fieldT (t : Ty) (s : ByteArray) : Option Ty := bif eqd t.k 8 then (ix t.labels s).bind fun i => t.args[i]? else none
theorem fieldT_run (t : Ty) (s : ByteArray) (h : Heap) (r : R) (hr : ∀ a : Int, a = idxR t.labels 0 s → cond (!(eqd t.k 8)) (some (.ret (.tup [.agg zeroT.cells, .lit (.bool false)]), h)) (cond (decide (a < 0)) (some (.ret (.tup [.agg zeroT.cells, .lit (.bool false)]), h)) (cond (decide (a ≥ (t.args.length : Int))) (some (.ret (.tup [.agg zeroT.cells, .lit (.bool false)]), h)) ((indexA 5 (.sl 5 (t.args.map Ty.cells)) (.lit (.int .i64 a))).bind fun e => (partA true 5 0 e).bind fun v => (aggOf v).bind fun l => cond (Nat.beq l.length 5) (some (.ret (.tup [.agg [l.getD 0 .dead, l.getD 1 .dead, l.getD 2 .dead, l.getD 3 .dead, l.getD 4 .dead], .lit (.bool true)]), h)) none))) = r) :
    r = some (.ret (.tup [.agg ((fieldT t s).getD zeroT).cells, .lit (.bool (fieldT t s).isSome)]), h) := by
  rw [← hr _ rfl]
  have hix := idxR_ix t.labels 0 s
  rw [show ((0 : Nat) : Int) = 0 from rfl] at hix
  rw [hix]
  unfold fieldT
  cases eqd t.k 8 with
  | false => rfl
  | true =>
    rw [Bool.not_true, condF, cond_true]
    cases ix t.labels s with
    | none => rfl
    | some i =>
      show cond (decide (((0 + i : Nat) : Int) < 0)) _ (cond (decide (((0 + i : Nat) : Int) ≥ (t.args.length : Int))) _ ((indexA 5 _ (.lit (.int .i64 ((0 + i : Nat) : Int)))).bind _)) = _
      rw [Nat.zero_add, decide_eq_false (show ¬ (i : Int) < 0 by omega), condF, Option.bind_some]
      by_cases hi : i < t.args.length
      · rw [decide_eq_false (show ¬ (i : Int) ≥ (t.args.length : Int) by omega), condF, indexA_map _ _ _ _ hi, bind_some', partA_full (Ty.cells_len _), bind_some', aggS, bind_some', Ty.cells_len, b5, condT, Ty.refold, List.getElem?_eq_getElem hi]; rfl
      · rw [decide_eq_true (show (i : Int) ≥ (t.args.length : Int) by omega), condT, List.getElem?_eq_none (by omega)]; rfl
theorem field174 (t : Ty) (ok : t.Ok) (s : ByteArray) (h : Heap) : evw E 27 [.agg t.cells, .lit (.string s)] h = some (.ret (.tup [.agg ((fieldT t s).getD zeroT).cells, .lit (.bool (fieldT t s).isSome)]), h) := by
  refine evw_run primsC 0 rfl rfl rfl ?_
  rw [nf27]
  refine fieldT_run t s h _ fun a ha => ?_
  simp only [aggS, bind_some', Ty.cells_len, b5, condT, Ty.c0, Ty.c3, Ty.c4, index_prog _ ok.lab, onOut_ret, ← ha, bin_int, neqE, boolB, lssI, geqI, lenA23, List.length_map, zeroT_cells]
end Go.Sh.T
