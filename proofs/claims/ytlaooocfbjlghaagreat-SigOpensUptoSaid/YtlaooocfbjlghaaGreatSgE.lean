/- SgE: part of the proof: a shadow of the machine that is proved sound, and what the functions of this seat compute. Conditions: none. -/
import Derived.Test.YtlaooocfbjlghaaGreatSgC
import Derived.Sort.Walk0
import Derived.Test.YtlaooocfbjlghaaGreatSgA
set_option linter.unusedSimpArgs false
/- Depth and At: the document's and the program's. -/
namespace Go.Sh.T
open Go Go.Sh
set_option linter.unusedSimpArgs false
set_option linter.unusedVariables false
set_option maxRecDepth 100000
def mx (x y : Int) : Int := if y > x then y else x
theorem maxs1 (x y : Int) : maxs (.lit (.int .i64 x)) [.lit (.int .i64 y)] = some (.lit (.int .i64 (mx x y))) := (Eq.refl _).trans rfl
mutual
def Ty.deep : Ty → Int
  | ⟨_, _, _, _, xs⟩ => add64 (Ty.deepL 0 xs) 1
def Ty.deepL (acc : Int) : List Ty → Int
  | [] => acc
  | t :: r => Ty.deepL (mx acc t.deep) r
end
theorem Ty.deep_eq (t : Ty) : t.deep = add64 (Ty.deepL 0 t.args) 1 := by cases t; rw [Ty.deep]
mutual
def Exp.deep : Exp → Int
  | ⟨_, _, _, _, ts, _, xs⟩ => add64 (Exp.deepL (Ty.deepL 0 ts) xs) 1
def Exp.deepL (acc : Int) : List Exp → Int
  | [] => acc
  | t :: r => Exp.deepL (mx acc t.deep) r
end
theorem Exp.deep_eq (t : Exp) : t.deep = add64 (Exp.deepL (Ty.deepL 0 t.types) t.kids) 1 := by cases t; rw [Exp.deep]
theorem deep47 : ∀ (t : Ty) (h : Heap), t.Ok → evw E 88 [.agg t.cells] h = some (.ret (.lit (.int .i64 t.deep)), h)
  | t, h, ok => by
    have hlen := ok.len
    have loop : ∀ (q i : Nat) (acc : Int), i ≤ t.args.length → t.args.length < q + i → Lp88_0 (evw E) (t.args.length + 1) h q h (.lit (.int .i64 acc)) (.sl 5 (t.args.map Ty.cells)) (.lit (.int .i64 (t.args.length : Int))) (.lit (.int .i64 (i : Int))) = some (.ret (.lit (.int .i64 (add64 (Ty.deepL acc (t.args.drop i)) 1))), h) := by
      intro q
      induction q with
      | zero => intro i acc h1 h2; omega
      | succ q ih =>
        intro i acc h1 h2
        rw [Lp88_0_succ, bin_int, lssI, bind_some', boolB, bind_some']
        by_cases hi : i < t.args.length
        · have hrec := deep47 (t.args[i]) h (ok.arg (List.getElem_mem hi))
          rw [ltT hi, condT, indexA_map _ _ _ _ hi, bind_some', partA_full (Ty.cells_len _), bind_some', aggS, bind_some', Ty.cells_len, b5, condT, Ty.refold, hrec, onOut_ret, maxs1, bind_some', bin_int, addI, bind_some', incI (by omega), ih (i + 1) _ hi (by omega), List.drop_eq_getElem_cons hi, Ty.deepL]
        · rw [ltF hi, condF, List.drop_of_length_le (by omega), Ty.deepL, bin_int, addI, bind_some']
    refine evw_run primsC (t.args.length + 1) rfl rfl rfl ?_
    rw [nf88, aggS, bind_some', Ty.cells_len, b5, condT, Ty.c4, lenA24, bind_some', List.length_map, Ty.deep_eq]
    have := loop (t.args.length + 1) 0 0 (Nat.zero_le _) (by omega)
    rw [List.drop_zero] at this
    exact this
  termination_by t => SizeOf.sizeOf t
  decreasing_by exact Ty.size_arg hi
theorem deep17 : ∀ (e : Exp) (h : Heap), e.Ok → evw E 86 [.agg e.cells] h = some (.ret (.lit (.int .i64 e.deep)), h)
  | e, h, ok => by
    have hlen : e.kids.length ≤ 9223372036854775807 := ok.len
    have htl : e.types.length ≤ 9223372036854775807 := ok.tlen
    obtain ⟨N, hN⟩ : ∃ N, N = e.kids.length + e.types.length + 1 := ⟨_, rfl⟩
    have loop1 : ∀ (q i : Nat) (acc : Int), i ≤ e.kids.length → e.kids.length < q + i → Lp86_1 (evw E) N h q h (.lit (.int .i64 acc)) (.sl 7 (e.kids.map Exp.cells)) (.lit (.int .i64 (e.kids.length : Int))) (.lit (.int .i64 (i : Int))) = some (.ret (.lit (.int .i64 (add64 (Exp.deepL acc (e.kids.drop i)) 1))), h) := by
      intro q
      induction q with
      | zero => intro i acc h1 h2; omega
      | succ q ih =>
        intro i acc h1 h2
        rw [Lp86_1_succ, bin_int, lssI, bind_some', boolB, bind_some']
        by_cases hi : i < e.kids.length
        · have hrec := deep17 (e.kids[i]) h (ok.kid (List.getElem_mem hi))
          rw [ltT hi, condT, indexA_map _ _ _ _ hi, bind_some', partA_full (Exp.cells_len _), bind_some', aggS, bind_some', Exp.cells_len, b7, condT, Exp.re, hrec, onOut_ret, maxs1, bind_some', bin_int, addI, bind_some', incI (by omega), ih (i + 1) _ hi (by omega), List.drop_eq_getElem_cons hi, Exp.deepL]
        · rw [ltF hi, condF, List.drop_of_length_le (by omega), Exp.deepL, bin_int, addI, bind_some']
    have loop0 : ∀ (x0 x1 x2 x3 x4 x5 : AV) (q i : Nat) (acc : Int), i ≤ e.types.length → e.types.length < q + i → Lp86_0 (evw E) N h q h x0 x1 x2 x3 x4 x5 (.sl 7 (e.kids.map Exp.cells)) (.lit (.int .i64 acc)) (.sl 5 (e.types.map Ty.cells)) (.lit (.int .i64 (e.types.length : Int))) (.lit (.int .i64 (i : Int))) = some (.ret (.lit (.int .i64 (add64 (Exp.deepL (Ty.deepL acc (e.types.drop i)) e.kids) 1))), h) := by
      intro x0 x1 x2 x3 x4 x5 q
      induction q with
      | zero => intro i acc h1 h2; omega
      | succ q ih =>
        intro i acc h1 h2
        rw [Lp86_0_succ, bin_int, lssI, bind_some', boolB, bind_some']
        by_cases hi : i < e.types.length
        · rw [ltT hi, condT, indexA_map _ _ _ _ hi, bind_some', partA_full (Ty.cells_len _), bind_some', aggS, bind_some', Ty.cells_len, b5, condT, Ty.refold, deep47 _ _ (ok.ty (List.getElem_mem hi)), onOut_ret, maxs1, bind_some', bin_int, addI, bind_some', incI (by omega), ih (i + 1) _ hi (by omega), List.drop_eq_getElem_cons hi, Ty.deepL]
        · rw [ltF hi, condF, List.drop_of_length_le (show e.types.length ≤ i by omega), Ty.deepL, lenA50, bind_some', List.length_map]
          have := loop1 N 0 acc (Nat.zero_le _) (by omega)
          rw [List.drop_zero] at this
          exact this
    refine evw_run primsC N rfl rfl rfl ?_
    rw [nf86, aggS, bind_some', Exp.cells_len, b7, condT, Exp.c0, Exp.c1, Exp.c2, Exp.c3, Exp.c4, Exp.c5, Exp.c6, lenA24, bind_some', List.length_map, Exp.deep_eq]
    have := loop0 (.lit (.int .i64 e.k)) (.lit (.int .i64 e.n)) (.lit (.string e.name)) (.lit (.bool e.has)) (.sl 5 (e.types.map Ty.cells)) (.sl 1 (e.labels.map strC)) N 0 0 (Nat.zero_le _) (by omega)
    rw [List.drop_zero] at this
    exact this
  termination_by e => SizeOf.sizeOf e
  decreasing_by exact Exp.size_kid hi
/- At, by definition -/
end Go.Sh.T

/- What is free, and called: the document's lists and the program's. -/
namespace Go.Sh.T
open Go Go.Sh
set_option linter.unusedSimpArgs false
set_option linter.unusedVariables false
set_option maxRecDepth 100000
/-- A text, put in its place in a list that rises, once. -/
def putR : List ByteArray → ByteArray → List ByteArray
  | [], s => [s]
  | x :: r, s => bif strLt x s then x :: putR r s else bif !(strLt x s || strEq x s) then s :: x :: r else x :: r
theorem putR_len (s : ByteArray) : ∀ l : List ByteArray, (putR l s).length ≤ l.length + 1
  | [] => Nat.le_refl _
  | x :: r => by
    have := putR_len s r
    rw [putR]
    cases strLt x s with
    | true => rw [cond_true, List.length_cons, List.length_cons]; omega
    | false =>
      rw [cond_false]
      cases !(false || strEq x s) with
      | true => rw [cond_true]; simp
      | false => rw [cond_false]; simp
theorem foldR_len : ∀ (l out : List ByteArray), (l.foldl putR out).length ≤ out.length + l.length
  | [], out => Nat.le_refl _
  | x :: l, out => by
    have h1 := foldR_len l (putR out x)
    have h2 := putR_len x out
    rw [List.foldl_cons, List.length_cons]; omega
theorem one_str (s : ByteArray) : AV.one (.lit (.string s)) = true := rfl
theorem ble_app (acc : List ByteArray) (s : ByteArray) (h : acc.length + 1 ≤ maxApp) : Nat.ble ((acc.map strC).length + ([[AV.lit (.string s)]] : List (List AV)).length) maxApp = true := by rw [Nat.ble_eq, List.length_map]; exact h
mutual
/-- The document's free names. -/
def Exp.rfree : Exp → List ByteArray
  | ⟨k, n, s, b, ts, ls, xs⟩ => Exp.rfreeK k s xs 0 (bif k == 4 then [s] else [])
def Exp.rfreeK (k : Int) (s : ByteArray) : List Exp → Nat → List ByteArray → List ByteArray
  | [], _, out => out
  | x :: r, i, out => Exp.rfreeK k s r (i + 1) ((bif k == 7 || (k == 5 && decide ((i : Int) > 0)) then x.rfree.filter (fun y => !strEq y s) else x.rfree).foldl putR out)
end
mutual
/-- The document's called names. -/
def Exp.rcalls : Exp → List ByteArray
  | ⟨k, n, s, b, ts, ls, xs⟩ => Exp.rcallsK xs (bif k == 13 then [s] else [])
def Exp.rcallsK : List Exp → List ByteArray → List ByteArray
  | [], out => out
  | x :: r, out => Exp.rcallsK r (x.rcalls.foldl putR out)
end
mutual
theorem Exp.rfree_len : ∀ e : Exp, e.rfree.length ≤ e.pre.length
  | ⟨k, n, s, b, ts, ls, xs⟩ => by
    have := Exp.rfreeK_len k s xs 0 (bif k == 4 then [s] else [])
    rw [Exp.rfree, Exp.pre, List.length_cons]
    have h1 : (bif k == 4 then [s] else []).length ≤ 1 := by cases k == 4 <;> simp
    omega
theorem Exp.rfreeK_len (k : Int) (s : ByteArray) : ∀ (l : List Exp) (i : Nat) (out : List ByteArray), (Exp.rfreeK k s l i out).length ≤ out.length + (Exp.preL l).length
  | [], i, out => by rw [Exp.rfreeK]; exact Nat.le_add_right _ _
  | x :: r, i, out => by
    have h1 := Exp.rfree_len x
    rw [Exp.rfreeK, Exp.preL, List.length_append]
    have h2 := Exp.rfreeK_len k s r (i + 1) ((bif k == 7 || (k == 5 && decide ((i : Int) > 0)) then x.rfree.filter (fun y => !strEq y s) else x.rfree).foldl putR out)
    have h3 := foldR_len (bif k == 7 || (k == 5 && decide ((i : Int) > 0)) then x.rfree.filter (fun y => !strEq y s) else x.rfree) out
    have h4 : (bif k == 7 || (k == 5 && decide ((i : Int) > 0)) then x.rfree.filter (fun y => !strEq y s) else x.rfree).length ≤ x.rfree.length := by
      cases k == 7 || (k == 5 && decide ((i : Int) > 0)) with
      | true => rw [cond_true]; exact List.length_filter_le _ _
      | false => exact Nat.le_refl _
    omega
end
mutual
theorem Exp.rcalls_len : ∀ e : Exp, e.rcalls.length ≤ e.pre.length
  | ⟨k, n, s, b, ts, ls, xs⟩ => by
    have := Exp.rcallsK_len xs (bif k == 13 then [s] else [])
    rw [Exp.rcalls, Exp.pre, List.length_cons]
    have h1 : (bif k == 13 then [s] else []).length ≤ 1 := by cases k == 13 <;> simp
    omega
theorem Exp.rcallsK_len : ∀ (l : List Exp) (out : List ByteArray), (Exp.rcallsK l out).length ≤ out.length + (Exp.preL l).length
  | [], out => by rw [Exp.rcallsK]; exact Nat.le_add_right _ _
  | x :: r, out => by
    have h1 := Exp.rcalls_len x
    have h2 := Exp.rcallsK_len r (x.rcalls.foldl putR out)
    have h3 := foldR_len x.rcalls out
    rw [Exp.rcallsK, Exp.preL, List.length_append]
    omega
end

theorem onOut_own {ρ : Type} (n : Nat) (es : List (List AV)) (h : Heap) (k1 : AV → Heap → Option ρ) (k2 : Nat → List (List AV) → Heap → Option ρ) (k3 : AV → Heap → Option ρ) : onOut (some (.own n es, h)) k1 k2 k3 = k2 n es h := (Eq.refl _).trans rfl
end Go.Sh.T

/- What is free, and called, is the same; ExpTells. -/
namespace Go.Sh.T
open Go Go.Sh
set_option linter.unusedSimpArgs false
set_option linter.unusedVariables false
set_option maxRecDepth 100000
theorem strLt_by (x y : ByteArray) : strLt x y = decide (toB x < toB y) := by
  unfold strLt
  rw [Go.Proofs.bytesLess_eq, toList_data, toList_data]
theorem strEq_by (x y : ByteArray) : strEq x y = decide (toB x = toB y) := by
  unfold strEq
  rw [toList_data, toList_data, Bool.eq_iff_iff, beq_iff_eq, decide_eq_true_eq]
theorem putR_by (s : ByteArray) : ∀ l : List ByteArray, (putR l s).map toB = putB (l.map toB) (toB s)
  | [] => rfl
  | x :: r => by
    rw [putR, List.map_cons, putB, strLt_by, strEq_by]
    by_cases h1 : toB x < toB s
    · rw [decide_eq_true h1, cond_true, cond_true, List.map_cons, putR_by s r]
    · rw [decide_eq_false h1, cond_false, cond_false, Bool.false_or]
      by_cases h2 : toB x = toB s
      · rw [decide_eq_true h2, Bool.not_true, cond_false, h2, decide_eq_false (by_irrefl _), cond_false]
        rw [List.map_cons, h2]
      · rw [decide_eq_false h2, Bool.not_false, cond_true]
        have h3 : toB s < toB x := by_lt_of (List.not_lt.1 h1) (fun e => h2 e.symm)
        rw [decide_eq_true h3, cond_true]; rfl
theorem foldR_by : ∀ (l out : List ByteArray), (l.foldl putR out).map toB = (l.map toB).foldl putB (out.map toB)
  | [], out => rfl
  | x :: l, out => by rw [List.foldl_cons, foldR_by l, putR_by, List.map_cons, List.foldl_cons]
theorem mem_toB {x : ByteArray} {l : List ByteArray} : toB x ∈ l.map toB ↔ x ∈ l := by
  constructor
  · intro h
    obtain ⟨y, hy, e⟩ := List.mem_map.1 h
    have : y = x := by rw [← ofB_toB y, ← ofB_toB x, e]
    rw [← this]; exact hy
  · exact fun h => List.mem_map.2 ⟨x, h, rfl⟩
theorem foldR_mem {x : ByteArray} {l out : List ByteArray} : x ∈ l.foldl putR out ↔ x ∈ l ∨ x ∈ out := by
  rw [← mem_toB, foldR_by, foldB_mem, mem_toB, mem_toB]
theorem foldR_rise {l out : List ByteArray} (h : (out.map toB).Pairwise (· < ·)) : ((l.foldl putR out).map toB).Pairwise (· < ·) := by rw [foldR_by]; exact foldB_rise _ _ h
/-- A list that rises, and has what is gathered, is what comes of sorting and compacting. -/
theorem riseL_eq {l m : List ByteArray} (hr : (m.map toB).Pairwise (· < ·)) (hm : ∀ x, x ∈ l ↔ x ∈ m) : riseL l = m := by
  unfold riseL
  have : riseB (l.map toB) = m.map toB := by
    refine rise_same _ _ (riseB_rise _) hr fun z => ?_
    rw [riseB_mem]
    constructor
    · intro h
      obtain ⟨y, hy, rfl⟩ := List.mem_map.1 h
      exact mem_toB.2 ((hm y).1 hy)
    · intro h
      obtain ⟨y, hy, rfl⟩ := List.mem_map.1 h
      exact mem_toB.2 ((hm y).2 hy)
  rw [this, map_ofB]
end Go.Sh.T

/- ExpDefs. -/
namespace Go.Sh.T
open Go Go.Sh
set_option linter.unusedSimpArgs false
set_option linter.unusedVariables false
set_option maxRecDepth 100000

theorem t0 (a b : AV) : [a, b][0]? = some a := rfl
theorem t1 (a b : AV) : [a, b][1]? = some b := rfl
theorem volE_mem {α : Type} (f : α → List AV) : ∀ (l : List α) (x : α), x ∈ l → volC (f x) ≤ volE (l.map f)
  | y :: l, x, h => by
    rw [List.map_cons, volE]
    rcases List.mem_cons.1 h with e | e
    · rw [e]; omega
    · have := volE_mem f l x e; omega
theorem volE_len {α : Type} (f : α → List AV) (h1 : ∀ x, 1 ≤ volC (f x)) : ∀ (l : List α), l.length ≤ volE (l.map f)
  | [] => Nat.zero_le _
  | y :: l => by
    rw [List.map_cons, volE, List.length_cons]
    have := volE_len f h1 l; have := h1 y; omega

/- the types that a definition promises -/
def Sig.tys (s : Sig) : List Ty := s.bs.map Bind.ty ++ (s.ps.map Bind.ty ++ [s.res])
theorem Bind.vol (b : Bind) : volC b.cells = Sh.vol (.lit (.string b.name)) + volC b.ty.cells := (Eq.refl _).trans rfl
theorem Bind.vol1 (b : Bind) : 1 ≤ volC b.cells := by
  rw [Bind.vol, Ty.cells_eq]; simp only [volC, Sh.vol]; omega
theorem Sig.vol_bs (s : Sig) : volE (s.bs.map Bind.cells) + volE (s.ps.map Bind.cells) + volC s.res.cells ≤ volC s.cells := by
  unfold Sig.cells; simp only [volC, Sh.vol]; omega
structure Sig.Slim (s : Sig) : Prop where
  len : s.bs.length + s.ps.length ≤ 1048576
  tys : ∀ t ∈ s.tys, t.pre.length ≤ 1048576
theorem Sig.slim (s : Sig) (h : volC s.cells ≤ 1048576) : s.Slim := by
  have h0 := s.vol_bs
  have h1 := volE_len Bind.cells Bind.vol1 s.bs
  have h2 := volE_len Bind.cells Bind.vol1 s.ps
  refine ⟨by omega, fun t ht => ?_⟩
  have h3 := Ty.pre_vol t
  unfold Sig.tys at ht
  rcases List.mem_append.1 ht with ht | ht
  · obtain ⟨b, hb, rfl⟩ := List.mem_map.1 ht
    have := volE_mem Bind.cells s.bs b hb
    have := b.vol; omega
  · rcases List.mem_append.1 ht with ht | ht
    · obtain ⟨b, hb, rfl⟩ := List.mem_map.1 ht
      have := volE_mem Bind.cells s.ps b hb
      have := b.vol; omega
    · rw [List.mem_singleton.1 ht] at h3 ⊢; omega
theorem Sig.tys_ok {s : Sig} (ok : s.Ok) : ∀ t ∈ s.tys, t.Ok := by
  intro t ht
  unfold Sig.tys at ht
  rcases List.mem_append.1 ht with ht | ht
  · obtain ⟨b, hb, rfl⟩ := List.mem_map.1 ht
    exact (ok.bs b hb).ty
  · rcases List.mem_append.1 ht with ht | ht
    · obtain ⟨b, hb, rfl⟩ := List.mem_map.1 ht
      exact (ok.ps b hb).ty
    · rw [List.mem_singleton.1 ht]; exact ok.res
theorem Sig.tys_len (s : Sig) : s.tys.length = s.bs.length + (s.ps.length + 1) := by unfold Sig.tys; simp
theorem bleA {n : Nat} (h : n ≤ 1048577) : Nat.ble n maxApp = true := by
  rw [Nat.ble_eq]; have hm : maxApp = 2147483648 := rfl; omega
theorem tyL_snoc (z : List Ty) (t : Ty) : z.map Ty.cells ++ [t.cells] = (z ++ [t]).map Ty.cells := by rw [List.map_append]; rfl

theorem types57 (s : Sig) (ok : s.Ok) (sl : s.Slim) (h : Heap) : evw E 65 [.agg s.cells] h = some (.ret (.sl 5 (s.tys.map Ty.cells)), h) := by
  have hlen := sl.len
  obtain ⟨N, hN⟩ : ∃ N, N = s.bs.length + s.ps.length + 1 := ⟨_, rfl⟩
  have loop1 : ∀ (x0 x1 x2 : AV) (q i : Nat) (z : List Ty), i ≤ s.ps.length → s.ps.length < q + i → z.length + (s.ps.length - i) ≤ 1048576 → Lp65_1 (evw E) N h q h x0 x1 x2 (s.cells.getD 3 .dead) (s.cells.getD 4 .dead) (s.cells.getD 5 .dead) (s.cells.getD 6 .dead) (s.cells.getD 7 .dead) (z.map Ty.cells) (.sl 6 (s.ps.map Bind.cells)) (.lit (.int .i64 (s.ps.length : Int))) (.lit (.int .i64 (i : Int))) = some (.ret (.sl 5 ((z ++ ((s.ps.drop i).map Bind.ty ++ [s.res])).map Ty.cells)), h) := by
    intro x0 x1 x2 q
    induction q with
    | zero => intro i z h1 h2; omega
    | succ q ih =>
      intro i z h1 h2 h3
      rw [Lp65_1_succ, bin_int, lssI, bind_some', boolB, bind_some']
      by_cases hi : i < s.ps.length
      · rw [ltT hi, condT, indexA_map _ _ _ _ hi, bind_some', partA_full (Bind.len _), bind_some', aggS, bind_some', Bind.len, b6, condT, List.length_map, bleA (by simp; omega), condT, bin_int, addI, bind_some', incI (by omega), Bind.re1, tyL_snoc, ih (i + 1) _ hi (by omega) (by simp; omega), List.drop_eq_getElem_cons hi, List.map_cons (f := Bind.ty), List.append_assoc z]
        rfl
      · rw [ltF hi, condF, List.length_map, bleA (by simp; omega), condT, Sig.re3, tyL_snoc, List.drop_of_length_le (by omega)]
        rfl
  have loop0 : ∀ (q i : Nat) (z : List Ty), i ≤ s.bs.length → s.bs.length < q + i → z.length + (s.bs.length - i) + s.ps.length ≤ 1048576 → Lp65_0 (evw E) N h q h (s.cells.getD 0 .dead) (s.cells.getD 1 .dead) (.sl 6 (s.ps.map Bind.cells)) (s.cells.getD 3 .dead) (s.cells.getD 4 .dead) (s.cells.getD 5 .dead) (s.cells.getD 6 .dead) (s.cells.getD 7 .dead) (z.map Ty.cells) (.sl 6 (s.bs.map Bind.cells)) (.lit (.int .i64 (s.bs.length : Int))) (.lit (.int .i64 (i : Int))) = some (.ret (.sl 5 ((z ++ ((s.bs.drop i).map Bind.ty ++ (s.ps.map Bind.ty ++ [s.res]))).map Ty.cells)), h) := by
    intro q
    induction q with
    | zero => intro i z h1 h2; omega
    | succ q ih =>
      intro i z h1 h2 h3
      rw [Lp65_0_succ, bin_int, lssI, bind_some', boolB, bind_some']
      by_cases hi : i < s.bs.length
      · rw [ltT hi, condT, indexA_map _ _ _ _ hi, bind_some', partA_full (Bind.len _), bind_some', aggS, bind_some', Bind.len, b6, condT, List.length_map, bleA (by simp; omega), condT, bin_int, addI, bind_some', incI (by omega), Bind.re1, tyL_snoc, ih (i + 1) _ hi (by omega) (by simp; omega), List.drop_eq_getElem_cons hi, List.map_cons (f := Bind.ty), List.append_assoc z]
        rfl
      · rw [ltF hi, condF, lenA22, bind_some', List.length_map, List.drop_of_length_le (show s.bs.length ≤ i by omega)]
        have := loop1 (s.cells.getD 0 .dead) (s.cells.getD 1 .dead) (.sl 6 (s.ps.map Bind.cells)) N 0 z (Nat.zero_le _) (by omega) (by omega)
        rw [List.drop_zero] at this
        exact this
  refine evw_run primsC N rfl rfl rfl ?_
  rw [nf65, aggS, bind_some', Sig.len, b8, condT, Sig.c1, Sig.c2, lenA22, bind_some', List.length_map]
  have := loop0 N 0 [] (Nat.zero_le _) (by omega) (by simp; omega)
  rw [List.drop_zero] at this
  exact this

/- how large, how deep -/
def sizeL : List Ty → Int → Int → Int × Int
  | [], n, d => (n, d)
  | t :: r, n, d => sizeL r (add64 n t.nodes) (mx d t.deep)
def Def.size (d : Def) : Int × Int := sizeL d.sig.tys (expsN d.body.pre : Int) d.body.deep
theorem nodes45 (t : Ty) (ok : t.Ok) (hp : t.pre.length ≤ 1048576) (h : Heap) : evw E 87 [.agg t.cells] h = some (.ret (.lit (.int .i64 t.nodes)), h) := by
  refine evw_prim primsC (p := p87) (by rfl) ?_
  rw [p87_run _ t ok, cntW_eq' _ _ (by omega) (by rw [List.length_map]; omega), Ty.nodes_pre t (by omega), List.length_map]
  simp
theorem size27 (d : Def) (ok : d.Ok) (sl : d.sig.Slim) (hv : expsN d.body.pre ≤ 1048576) (h : Heap) : evw E 63 [.agg d.cells] h = some (.ret (.tup [.lit (.int .i64 d.size.1), .lit (.int .i64 d.size.2)]), h) := by
  have hlen := d.sig.tys_len
  have hsl := sl.len
  have loop : ∀ (q i : Nat) (n m : Int), i ≤ d.sig.tys.length → d.sig.tys.length < q + i → Lp63_0 (evw E) (d.sig.tys.length + 1) h q h (.lit (.int .i64 n)) (.lit (.int .i64 m)) (.sl 5 (d.sig.tys.map Ty.cells)) (.lit (.int .i64 (d.sig.tys.length : Int))) (.lit (.int .i64 (i : Int))) = some (.ret (.tup [.lit (.int .i64 (sizeL (d.sig.tys.drop i) n m).1), .lit (.int .i64 (sizeL (d.sig.tys.drop i) n m).2)]), h) := by
    intro q
    induction q with
    | zero => intro i n m h1 h2; omega
    | succ q ih =>
      intro i n m h1 h2
      rw [Lp63_0_succ, bin_int, lssI, bind_some', boolB, bind_some']
      by_cases hi : i < d.sig.tys.length
      · have hm := List.getElem_mem hi
        rw [ltT hi, condT, indexA_map _ _ _ _ hi, bind_some', partA_full (Ty.cells_len _), bind_some', aggS, bind_some', Ty.cells_len, b5, condT, Ty.refold, nodes45 _ (Sig.tys_ok ok.sig _ hm) (sl.tys _ hm), onOut_ret, bin_int, addI, bind_some', deep47 _ _ (Sig.tys_ok ok.sig _ hm), onOut_ret, maxs1, bind_some', bin_int, addI, bind_some', incI (by omega), ih (i + 1) _ _ hi (by omega), List.drop_eq_getElem_cons hi, sizeL]
      · rw [ltF hi, condF, List.drop_of_length_le (by omega), sizeL]
  refine evw_run primsC (d.sig.tys.length + 1) rfl rfl rfl ?_
  rw [nf63, aggS, bind_some', Def.len, b15, condT, Def.reBody, Def.reSig, nodes12 _ ok.body hv, onOut_ret, deep17 _ _ ok.body, onOut_ret, types57 _ ok.sig sl, onOut_ret, lenA24, bind_some', List.length_map]
  have := loop (d.sig.tys.length + 1) 0 (expsN d.body.pre : Int) d.body.deep (Nat.zero_le _) (by omega)
  rw [List.drop_zero] at this
  exact this
end Go.Sh.T

/- ExpDefs: names, the document's Sig, both Defs, the law. -/
namespace Go.Sh.T
open Go Go.Sh
set_option linter.unusedSimpArgs false
set_option linter.unusedVariables false
set_option maxRecDepth 100000

def idxR : List ByteArray → Int → ByteArray → Int
  | [], _, _ => -1
  | x :: r, i, s => bif strEq x s then i else idxR r (i + 1) s
theorem strEq_data (x s : ByteArray) : (x.data.toList == s.data.toList) = strEq x s := by
  rw [Bool.eq_iff_iff, strEq_iff, beq_iff_eq]
  constructor
  · intro h; cases x; cases s; simp only [ByteArray.mk.injEq] at *; exact Array.toList_inj.1 h
  · intro h; rw [h]
theorem seenB_eq (l : List ByteArray) (s : ByteArray) : DI.seenB l s = l.any fun x => strEq x s := by
  unfold DI.seenB
  induction l with
  | nil => rfl
  | cons x l ih => rw [List.any_cons, List.any_cons, ih, strEq_data]

/- the document's rounds -/
def refB (may : ByteArray → Bool) : List ByteArray → List ByteArray → Bool
  | _, [] => true
  | pre, s :: r => bif may s then (bif pre.any (fun x => strEq x s) then false else refB may (pre ++ [s]) r) else false
def distB (may : ByteArray → Bool) : List ByteArray → List ByteArray → Bool
  | [], _ => true
  | s :: r, seen => bif DI.seenB seen s then false else bif may s then distB may r (s :: seen) else false
theorem dist_ref (may : ByteArray → Bool) : ∀ (l pre : List ByteArray), distB may l pre.reverse = refB may pre l
  | [], pre => rfl
  | s :: r, pre => by
    rw [distB, refB, seenB_eq, List.any_reverse, show s :: pre.reverse = (pre ++ [s]).reverse from by simp, dist_ref may r (pre ++ [s])]
    cases may s <;> cases pre.any (fun x => strEq x s) <;> rfl
theorem distW_eq (f : Nat) (may : ByteArray → Bool) (hf : ∀ s h, evw E f [.lit (.string s)] h = some (.ret (.lit (.bool (may s))), h)) (h : Heap) : ∀ (l : List Bind) (seen : List ByteArray), (∀ b ∈ l, b.Ok) → DI.distW (evw E) f (l.map Bind.cells) seen h = some (distB may (l.map Bind.name) seen, h)
  | [], seen, ok => rfl
  | b :: r, seen, ok => by
    rw [List.map_cons, List.map_cons, DI.distW, distB]
    have hn : DI.nameOf b.cells = some b.name := by
      unfold Bind.cells; rw [Ty.cells_eq]; rfl
    rw [hn, bind_some', show Nat.ble b.name.size maxLen = true from by rw [Nat.ble_eq]; exact (ok b List.mem_cons_self).name, condT, hf]
    cases DI.seenB seen b.name with
    | true => rfl
    | false =>
      rw [condF, condF]
      have hb : DI.boolR (some (.ret (.lit (.bool (may b.name))), h)) = some (may b.name, h) := rfl
      rw [hb, bind_some']
      cases may b.name with
      | true => exact distW_eq f may hf h r _ fun x hx => ok x (List.mem_cons_of_mem _ hx)
      | false => rfl
theorem dist60 (f : Nat) (may : ByteArray → Bool) (hf : ∀ s h, evw E f [.lit (.string s)] h = some (.ret (.lit (.bool (may s))), h)) (l : List Bind) (ok : ∀ b ∈ l, b.Ok) (hl : l.length ≤ 1048576) (m : Int) (h : Heap) :
    evw E 61 [.sl 6 (l.map Bind.cells), .lit (.int .i64 m), .fn f [] []] h = some (.ret (.lit (.bool (refB may [] (l.map Bind.name) && decide ((l.length : Int) ≤ m)))), h) := by
  refine evw_prim primsC (p := p61) (by rfl) ?_
  unfold p61
  simp only [List.length_map, bleA (show l.length ≤ 1048577 by omega), condT, distW_eq f may hf h l [] ok, bind_some']
  rw [← dist_ref may (l.map Bind.name) []]; rfl

def varB (s : ByteArray) : Bool := kindR s == 2
def fineN (s : ByteArray) : Bool := kindR s == 1
def Sig.rightB (s : Sig) : Bool := fineN s.name && (decide ((s.bs.length : Int) ≤ 3) && (decide ((s.ps.length : Int) ≤ 4) && (s.tys.all fineB && (refB varB [] (s.bs.map Bind.name) && refB fineN [] (s.ps.map Bind.name)))))
/- both Defs -/
def Def.rightB (d : Def) : Bool := d.sig.rightB && (d.body.right && (decide (d.size.1 ≤ 240) && decide (d.size.2 ≤ 40)))
theorem def29 (d : Def) (ok : d.Ok) (sl : d.sig.Slim) (hv : expsN d.body.pre ≤ 1048576) (h : Heap) : evw E 39 [.agg d.cells] h = some (.ret (.lit (.bool d.rightB)), h) := by
  have hlen := sl.len
  have htl := d.sig.tys_len
  have hm : maxLen = 9223372036854775807 := rfl
  refine evw_run primsC 0 rfl rfl rfl ?_
  rw [nf39, aggS, bind_some', Def.len, b15, condT, Def.re, Def.reSig, Def.reBody, Def.c0, Def.c1, Def.c2, pfine_spec, onOut_ret, notB, bind_some', boolB, bind_some', dist60 62 varB pvar_spec d.sig.bs ok.sig.bs (by omega), onOut_ret, dist60 60 fineN pfine_spec d.sig.ps ok.sig.ps (by omega), onOut_ret, size27 d ok sl hv, onOut_ret, types57 _ ok.sig sl, onOut_ret, all41 _ (by omega) (Sig.tys_ok ok.sig), onOut_ret, right8 _ _ ok.body, onOut_ret, tupS]
  simp only [notB, bind_some', boolB, t0, t1, bin_int, leqI]
  unfold Def.rightB Sig.rightB
  show cond (!fineN d.sig.name) _ _ = _
  cases fineN d.sig.name <;> cases decide ((d.sig.bs.length : Int) ≤ 3) <;> cases decide ((d.sig.ps.length : Int) ≤ 4) <;> cases d.sig.tys.all fineB <;> cases refB varB [] (d.sig.bs.map Bind.name) <;> cases refB fineN [] (d.sig.ps.map Bind.name) <;> cases d.body.right <;> cases decide (d.size.1 ≤ 240) <;> cases decide (d.size.2 ≤ 40) <;> rfl

end Go.Sh.T

/- Types put in places of others: plain law. -/
namespace Go.Sh.T
open Go Go.Sh
set_option linter.unusedSimpArgs false
set_option linter.unusedVariables false
set_option maxRecDepth 100000

def nilT : Ty := ⟨0, 0, ByteArray.empty, [], []⟩
mutual
/-- A type, turned. -/
def Ty.put (f : Ty → Option Ty) : Ty → Ty
  | ⟨k, n, s, ls, xs⟩ => match f ⟨k, n, s, ls, xs⟩ with
    | some u => u
    | none => ⟨k, n, s, ls, Ty.putL f xs⟩
def Ty.putL (f : Ty → Option Ty) : List Ty → List Ty
  | [] => []
  | t :: r => t.put f :: Ty.putL f r
end
theorem Ty.put_eq (f : Ty → Option Ty) (t : Ty) : t.put f = match f t with | some u => u | none => ⟨t.k, t.n, t.name, t.labels, Ty.putL f t.args⟩ := by cases t; rw [Ty.put]
theorem Ty.putL_map (f : Ty → Option Ty) : ∀ l : List Ty, Ty.putL f l = l.map (Ty.put f)
  | [] => rfl
  | t :: r => by rw [Ty.putL, Ty.putL_map f r]; rfl
mutual
/-- .. counted as it goes. -/
def Ty.over (f : Ty → Option Ty) : Ty → Int → Ty × Int
  | ⟨k, n, s, ls, xs⟩, L => bif decide (L < 0) then (nilT, L) else match f ⟨k, n, s, ls, xs⟩ with
    | some u => (u, L - (u.pre.length : Int))
    | none => (⟨k, n, s, ls, (Ty.overL f xs (L - 1)).1⟩, (Ty.overL f xs (L - 1)).2)
def Ty.overL (f : Ty → Option Ty) : List Ty → Int → List Ty × Int
  | [], L => ([], L)
  | t :: r, L => ((t.over f L).1 :: (Ty.overL f r (t.over f L).2).1, (Ty.overL f r (t.over f L).2).2)
end
theorem Ty.over_eq (f : Ty → Option Ty) (t : Ty) (L : Int) : t.over f L = bif decide (L < 0) then (nilT, L) else match f t with
    | some u => (u, L - (u.pre.length : Int))
    | none => (⟨t.k, t.n, t.name, t.labels, (Ty.overL f t.args (L - 1)).1⟩, (Ty.overL f t.args (L - 1)).2) := by cases t; rw [Ty.over]
mutual
theorem Ty.over_le (f : Ty → Option Ty) : ∀ (t : Ty) (L : Int), (t.over f L).2 ≤ L
  | ⟨k, n, s, ls, xs⟩, L => by
    rw [Ty.over]
    cases decide (L < 0) with
    | true => exact Int.le_refl _
    | false =>
      rw [cond_false]
      cases f ⟨k, n, s, ls, xs⟩ with
      | some u => show L - (u.pre.length : Int) ≤ L; omega
      | none => have := Ty.overL_le f xs (L - 1); show (Ty.overL f xs (L - 1)).2 ≤ L; omega
theorem Ty.overL_le (f : Ty → Option Ty) : ∀ (l : List Ty) (L : Int), (Ty.overL f l L).2 ≤ L
  | [], L => Int.le_refl _
  | t :: r, L => by
    have h1 := Ty.over_le f t L
    have h2 := Ty.overL_le f r (t.over f L).2
    rw [Ty.overL]; show (Ty.overL f r (t.over f L).2).2 ≤ L; omega
end
mutual
theorem Ty.over_law (f : Ty → Option Ty) : ∀ (t : Ty) (L : Int), 0 ≤ L → (((t.put f).pre.length : Int) ≤ L → t.over f L = (t.put f, L - ((t.put f).pre.length : Int))) ∧ (L < ((t.put f).pre.length : Int) → (t.over f L).2 < 0)
  | ⟨k, n, s, ls, xs⟩, L, h0 => by
    rw [Ty.over, Ty.put, decide_eq_false (by omega), cond_false]
    cases f ⟨k, n, s, ls, xs⟩ with
    | some u => exact ⟨fun _ => rfl, fun h => by show L - (u.pre.length : Int) < 0; have h : L < (u.pre.length : Int) := h; omega⟩
    | none =>
      have hl : (Ty.pre ⟨k, n, s, ls, Ty.putL f xs⟩).length = (Ty.preL (Ty.putL f xs)).length + 1 := by rw [Ty.pre, List.length_cons]
      simp only [hl]
      by_cases hL : 0 ≤ L - 1
      · obtain ⟨h1, h2⟩ := Ty.overL_law f xs (L - 1) hL
        refine ⟨fun h => ?_, fun h => h2 (by omega)⟩
        rw [h1 (by omega)]
        congr 1
        show L - 1 - _ = _
        omega
      · refine ⟨fun h => by omega, fun h => ?_⟩
        have := Ty.overL_le f xs (L - 1)
        omega
theorem Ty.overL_law (f : Ty → Option Ty) : ∀ (l : List Ty) (L : Int), 0 ≤ L → (((Ty.preL (Ty.putL f l)).length : Int) ≤ L → Ty.overL f l L = (Ty.putL f l, L - ((Ty.preL (Ty.putL f l)).length : Int))) ∧ (L < ((Ty.preL (Ty.putL f l)).length : Int) → (Ty.overL f l L).2 < 0)
  | [], L, h0 => by
    rw [Ty.overL, Ty.putL, Ty.preL]
    exact ⟨fun _ => by simp, fun h => by simp at h; omega⟩
  | t :: r, L, h0 => by
    obtain ⟨a1, a2⟩ := Ty.over_law f t L h0
    have hl : (Ty.preL (Ty.putL f (t :: r))).length = (t.put f).pre.length + (Ty.preL (Ty.putL f r)).length := by rw [Ty.putL, Ty.preL, List.length_append]
    rw [hl, Ty.overL, Ty.putL]
    by_cases ht : ((t.put f).pre.length : Int) ≤ L
    · rw [a1 ht]
      obtain ⟨b1, b2⟩ := Ty.overL_law f r (L - ((t.put f).pre.length : Int)) (by omega)
      refine ⟨fun h => ?_, fun h => b2 (by omega)⟩
      rw [b1 (by omega)]
      congr 1
      show L - _ - _ = _
      omega
    · have h1 := a2 (by omega)
      have h2 := Ty.overL_le f r (t.over f L).2
      exact ⟨fun h => by omega, fun _ => by show (Ty.overL f r (t.over f L).2).2 < 0; omega⟩
end
/-- What is handed out: only where it fits. -/
def Ty.fit (t : Ty) : Option Ty := bif decide ((t.pre.length : Int) ≤ 300) then some t else none
theorem Ty.over_fit (f : Ty → Option Ty) (t : Ty) : (bif decide ((t.over f 300).2 < 0) then none else some (t.over f 300).1) = (t.put f).fit := by
  obtain ⟨h1, h2⟩ := Ty.over_law f t 300 (by omega)
  unfold Ty.fit
  by_cases h : ((t.put f).pre.length : Int) ≤ 300
  · rw [h1 h, decide_eq_true h, cond_true, decide_eq_false (by show ¬ (300 - _ < (0 : Int)); omega), cond_false]
  · rw [decide_eq_false h, cond_false, decide_eq_true (h2 (by omega)), cond_true]
end Go.Sh.T

/- Bounds and variables, of the same doing as in the seat of Bounds. -/
namespace Go.Sh.T
open Go Go.Sh
set_option linter.unusedSimpArgs false
set_option linter.unusedVariables false
set_option maxRecDepth 100000
/- Casts: the small functions of the program and of the reference. -/

theorem t20 (x y : AV) : ([x, y] : List AV)[0]? = some x := (Eq.refl _).trans rfl
theorem t21 (x y : AV) : ([x, y] : List AV)[1]? = some y := (Eq.refl _).trans rfl
theorem eqlE (a b : Int) : intBin .eql .i64 a b = some (.lit (.bool (eqd a b))) := by rw [eqlI, int_eqd]
theorem neqE (a b : Int) : intBin .neq .i64 a b = some (.lit (.bool (!(eqd a b)))) := by rw [neqI, int_ne]

def zeroT : Ty := ⟨0, 0, ByteArray.empty, [], []⟩
theorem zeroT_cells : zeroT.cells = [.lit (.int .i64 0), .lit (.int .i64 0), .lit (.string ByteArray.empty), .sl 1 [], .sl 5 []] := by rw [Ty.cells_eq]; rfl
/- what comes: a value, or a label -/
/- fields -/

def few16L (n : Int) : List Bind → Int
  | [] => n
  | b :: r => few16L (max64 n [b.ty.much, quo8 b.name]) r
def few16 (l : List Bind) : Int := bif decide ((l.length : Int) > 20) then 5000 else few16L 0 (l.take 20)

theorem few16_spec (l : List Bind) (hl : l.length ≤ maxLen) (ok : ∀ s ∈ l, s.Ok) (h : Heap) : evw E 6 [.sl 6 (l.map Bind.cells)] h = some (.ret (.lit (.int .i64 (few16 l))), h) := by
  have hl : l.length ≤ 9223372036854775807 := hl
  have loop : ∀ (m i : Nat) (acc : Int), i ≤ l.length → l.length < m + i → Lp6_0 (evw E) (l.length + 1) h m h (.sl 6 (l.map Bind.cells)) (.lit (.int .i64 acc)) (.lit (.int .i64 (i : Int))) = some (.ret (.lit (.int .i64 (bif decide ((l.length : Int) > 20) then 5000 else few16L acc ((l.drop i).take (20 - i))))), h) := by
    intro m
    induction m with
    | zero => intro i acc h1 h2; omega
    | succ m ih =>
      intro i acc h1 h2
      rw [Lp6_0_succ]
      simp only [lenA22, bind_some', bin_int, lssI, boolB, List.length_map]
      by_cases hi : i < l.length
      · rw [ltT hi, condT]
        by_cases hk : i < 20
        · rw [show decide ((i : Int) < 20) = true from by simp; omega, condT]
          have o := ok l[i] (List.getElem_mem hi)
          have hm := maxs_i64 acc [l[i].ty.much, quo8 l[i].name]
          simp only [indexA_map _ _ _ _ hi, bind_some', Bind.len, show Nat.ble 0 6 = true from rfl, show Nat.ble 1 6 = true from rfl, Bind.p1, much_spec _ _ o.ty, onOut_ret]
          rw [condT, condT, Bind.p0]
          simp only [bind_some', lenS, bin_int, div8, addI]
          rw [show maxs (.lit (.int .i64 acc)) [.lit (.int .i64 l[i].ty.much), .lit (.int .i64 (quo8 l[i].name))] = _ from hm]
          rw [bind_some', incI (by omega), List.drop_eq_getElem_cons hi, show 20 - i = (20 - (i + 1)) + 1 from by omega, List.take_succ_cons, few16L]
          exact ih (i + 1) _ hi (by omega)
        · rw [show decide ((i : Int) < 20) = false from by simp; omega, condF, show 20 - i = 0 from by omega, List.take_zero, few16L, gtrI, bind_some', boolB, bind_some']
          cases decide ((l.length : Int) > 20) <;> rfl
      · rw [ltF hi, condF, List.drop_of_length_le (by omega), List.take_nil, few16L, gtrI, bind_some', boolB, bind_some']
        cases decide ((l.length : Int) > 20) <;> rfl
  refine evw_run primsC (l.length + 1) rfl rfl rfl ?_
  rw [nf6]
  have := loop (l.length + 1) 0 0 (Nat.zero_le _) (by omega)
  rw [List.drop_zero, Nat.sub_zero, show ((0 : Nat) : Int) = 0 from rfl] at this
  exact this

/- what is added -/
/- the same seals -/
/- Bounds: what is found, and what is up. -/

noncomputable def findB : List Bind → ByteArray → Option Ty
  | [], _ => none
  | b :: r, s => bif strEq b.name s then some b.ty else findB r s
theorem bfind38 (d : List Bind) (hd : d.length ≤ maxLen) (s : ByteArray) (h : Heap) : evw E 108 [.sl 6 (d.map Bind.cells), .lit (.string s)] h = some (.ret (.tup [.agg ((findB d s).getD zeroT).cells, .lit (.bool (findB d s).isSome)]), h) := by
  have hd : d.length ≤ 9223372036854775807 := hd
  have loop : ∀ (q i : Nat), i ≤ d.length → d.length < q + i → Lp108_0 (evw E) (d.length + 1) h q h (.lit (.string s)) (.lit (.int .i64 0)) (.lit (.int .i64 0)) (.lit (.string ByteArray.empty)) [] [] (.sl 6 (d.map Bind.cells)) (.lit (.int .i64 (d.length : Int))) (.lit (.int .i64 (i : Int))) = some (.ret (.tup [.agg ((findB (d.drop i) s).getD zeroT).cells, .lit (.bool (findB (d.drop i) s).isSome)]), h) := by
    intro q
    induction q with
    | zero => intro i h1 h2; omega
    | succ q ih =>
      intro i h1 h2
      rw [Lp108_0_succ, bin_int, lssI, bind_some', boolB, bind_some']
      by_cases hi : i < d.length
      · rw [ltT hi, condT, indexA_map _ _ _ _ hi, bind_some', partA_full (Bind.len _), bind_some', aggS, bind_some', Bind.len, b6, condT, Bind.n0, eqS, bind_some', boolB, bind_some', Bind.re1, List.drop_eq_getElem_cons hi, findB]
        cases strEq (d[i]).name s with
        | true => rfl
        | false => rw [condF, cond_false, bin_int, addI, bind_some', incI (by omega)]; exact ih (i + 1) hi (by omega)
      · rw [ltF hi, condF, List.drop_of_length_le (by omega), findB, Option.getD_none, zeroT_cells]; rfl
  refine evw_run primsC (d.length + 1) rfl rfl rfl ?_
  rw [nf108, lenA22, bind_some', List.length_map]
  have := loop (d.length + 1) 0 (Nat.zero_le _) (by omega)
  rw [List.drop_zero] at this
  exact this
theorem findB_mem : ∀ {d : List Bind} {s : ByteArray} {u : Ty}, findB d s = some u → ∃ b ∈ d, b.ty = u
  | b :: r, s, u, h => by
    rw [findB] at h
    cases he : strEq b.name s with
    | true => rw [he, cond_true] at h; exact ⟨b, List.mem_cons_self, Option.some.inj h⟩
    | false =>
      rw [he, cond_false] at h
      obtain ⟨c, h1, h2⟩ := findB_mem h
      exact ⟨c, List.mem_cons_of_mem _ h1, h2⟩
/- Texts put in their place; what a type's variables are. -/
/- the program's -/
mutual
/-- The document's variables. -/
def Ty.rvars : Ty → List ByteArray
  | ⟨k, n, s, ls, xs⟩ => Ty.rvarsL xs (bif k == 6 then [s] else [])
def Ty.rvarsL : List Ty → List ByteArray → List ByteArray
  | [], out => out
  | x :: r, out => Ty.rvarsL r (x.rvars.foldl putR out)
end
mutual
theorem Ty.rvars_len : ∀ e : Ty, e.rvars.length ≤ e.pre.length
  | ⟨k, n, s, ls, xs⟩ => by
    have := Ty.rvarsL_len xs (bif k == 6 then [s] else [])
    rw [Ty.rvars, Ty.pre, List.length_cons]
    have h1 : (bif k == 6 then [s] else []).length ≤ 1 := by cases k == 6 <;> simp
    omega
theorem Ty.rvarsL_len : ∀ (l : List Ty) (out : List ByteArray), (Ty.rvarsL l out).length ≤ out.length + (Ty.preL l).length
  | [], out => by rw [Ty.rvarsL]; exact Nat.le_add_right _ _
  | x :: r, out => by
    have h1 := Ty.rvars_len x
    have h2 := Ty.rvarsL_len r (x.rvars.foldl putR out)
    have h3 := foldR_len x.rvars out
    rw [Ty.rvarsL, Ty.preL, List.length_append]
    omega
end
theorem Ty.preL_mem : ∀ (l : List Ty) (x : Ty), x ∈ l → x.pre.length ≤ (Ty.preL l).length := by
  intro l
  induction l with
  | nil => intro x hx; cases hx
  | cons y r ih =>
    intro x hx
    rw [Ty.preL, List.length_append]
    rcases List.mem_cons.1 hx with e | e
    · rw [e]; omega
    · have := ih x e; omega
mutual
theorem Ty.rvars_rise : ∀ e : Ty, (e.rvars.map toB).Pairwise (· < ·)
  | ⟨k, n, s, ls, xs⟩ => by
    rw [Ty.rvars]
    refine Ty.rvarsL_rise xs _ ?_
    cases k == 6 with
    | true => exact List.pairwise_singleton _ _
    | false => exact List.Pairwise.nil
theorem Ty.rvarsL_rise : ∀ (l : List Ty) (out : List ByteArray), (out.map toB).Pairwise (· < ·) → ((Ty.rvarsL l out).map toB).Pairwise (· < ·)
  | [], out, h => by rw [Ty.rvarsL]; exact h
  | x :: r, out, h => by rw [Ty.rvarsL]; exact Ty.rvarsL_rise r _ (foldR_rise h)
end
def varsN (l : List Ty) : List ByteArray := (l.filter fun x => x.k == 6).map Ty.name
theorem varsN_append (l m : List Ty) : varsN (l ++ m) = varsN l ++ varsN m := by unfold varsN; rw [List.filter_append, List.map_append]
theorem varsN_cons (t : Ty) (m : List Ty) : varsN (t :: m) = (bif t.k == 6 then [t.name] else []) ++ varsN m := by
  unfold varsN; rw [List.filter_cons]
  cases t.k == 6 <;> rfl
theorem varsN_len (l : List Ty) : (varsN l).length ≤ l.length := by unfold varsN; rw [List.length_map]; exact List.length_filter_le _ _
mutual
theorem Ty.rvars_mem (x : ByteArray) : ∀ e : Ty, x ∈ varsN e.pre ↔ x ∈ e.rvars
  | ⟨k, n, s, ls, xs⟩ => by
    rw [Ty.pre, Ty.rvars, varsN_cons, Ty.rvarsL_mem x xs, List.mem_append]
theorem Ty.rvarsL_mem (x : ByteArray) : ∀ (l : List Ty) (out : List ByteArray), x ∈ Ty.rvarsL l out ↔ x ∈ out ∨ x ∈ varsN (Ty.preL l)
  | [], out => by rw [Ty.rvarsL, Ty.preL]; simp [varsN]
  | c :: r, out => by
    rw [Ty.rvarsL, Ty.rvarsL_mem x r, foldR_mem, ← Ty.rvars_mem x c, Ty.preL, varsN_append, List.mem_append]
    constructor
    · rintro ((h | h) | h)
      · exact .inr (.inl h)
      · exact .inl h
      · exact .inr (.inr h)
    · rintro (h | h | h)
      · exact .inl (.inr h)
      · exact .inl (.inl h)
      · exact .inr h
end
theorem vars_rise (t : Ty) : riseL (H34.V.nameL t) = t.rvars := riseL_eq (Ty.rvars_rise t) fun x => Ty.rvars_mem x t

theorem vars29 (t : Ty) (ok : t.Ok) (hv : t.pre.length ≤ 1048576) (h : Heap) : evw E 107 [.agg t.cells] h = some (.ret (.sl 1 (t.rvars.map strC)), h) := by
  refine evw_prim primsC (p := p107) (by rfl) ?_
  have h1 := varsN_len t.pre
  have hm : maxApp = 2147483648 := rfl
  show (decC t.cells).bind _ = _
  have hn : Nat.ble (H34.V.nameL t).length maxApp = true := by
    rw [Nat.ble_eq]
    have : H34.V.nameL t = varsN t.pre := rfl
    rw [this]; omega
  rw [decC_cells, bind_some', Ty.ok_small t ok, Ty.ltL, hn, Bool.and_self, Bool.and_self, condT, vars_rise]
/- Bounds: what each function computes. -/

theorem has34 (t : Ty) (ok : t.Ok) (k : Int) (h : Heap) : evw E 42 [.agg t.cells, .lit (.int .i64 k)] h = some (.ret (.lit (.bool (t.has k))), h) := evw_prim primsC (p := p42) (by kernel_rfl) (p42_run _ t ok k h)
theorem closed21 (t : Ty) (ok : t.Ok) (h : Heap) : evw E 21 [.agg t.cells] h = some (.ret (.lit (.bool (!t.has 6))), h) := by
  refine evw_run primsC 0 rfl rfl rfl ?_
  rw [nf21, aggS, bind_some', Ty.cells_len, b5, condT, Ty.refold, has_spec _ _ _ ok, onOut_ret, notB, bind_some']

/- right bounds -/
theorem names16 (d : List Bind) (hd : d.length ≤ 1000) (h : Heap) : evw E 35 [.sl 6 (d.map Bind.cells)] h = some (.ret (.sl 1 ((d.map Bind.name).map strC)), h) := by
  have hm : maxApp = 2147483648 := rfl
  have loop : ∀ (q i : Nat) (z : List ByteArray), i ≤ d.length → d.length < q + i → z.length + (d.length - i) ≤ 1000 → Lp35_0 (evw E) (d.length + 1) h q h (z.map strC) (.sl 6 (d.map Bind.cells)) (.lit (.int .i64 (d.length : Int))) (.lit (.int .i64 (i : Int))) = some (.ret (.sl 1 ((z ++ (d.drop i).map Bind.name).map strC)), h) := by
    intro q
    induction q with
    | zero => intro i z h1 h2; omega
    | succ q ih =>
      intro i z h1 h2 h3
      rw [Lp35_0_succ, bin_int, lssI, bind_some', boolB, bind_some']
      by_cases hi : i < d.length
      · rw [ltT hi, condT, indexA_map _ _ _ _ hi, bind_some', partA_full (Bind.len _), bind_some', aggS, bind_some', Bind.len, b6, condT, Bind.n0, one_str, condT, ble_app z _ (by omega), condT, bin_int, addI, bind_some', incI (by omega),
          show z.map strC ++ [[AV.lit (.string d[i].name)]] = (z ++ [d[i].name]).map strC from by rw [List.map_append]; rfl, ih (i + 1) _ hi (by omega) (by simp; omega), List.drop_eq_getElem_cons hi, List.map_cons (f := Bind.name), List.append_assoc z]
        rfl
      · rw [ltF hi, condF, List.drop_of_length_le (by omega), List.map_nil, List.append_nil]
  refine evw_run primsC (d.length + 1) rfl rfl rfl ?_
  rw [nf35, lenA22, bind_some', List.length_map]
  have := loop (d.length + 1) 0 [] (Nat.zero_le _) (by omega) (by simp; omega)
  rw [List.drop_zero] at this
  exact this

/- no other variables -/
noncomputable def inB (d : List Bind) (t : Ty) : Bool := t.rvars.all fun s => (findB d s).isSome
theorem in18 (d : List Bind) (hd : d.length ≤ 1000) (t : Ty) (ok : t.Ok) (hv : t.pre.length ≤ 1048576) (h : Heap) : evw E 74 [.sl 6 (d.map Bind.cells), .agg t.cells] h = some (.ret (.lit (.bool (inB d t))), h) := by
  have hlv := Ty.rvars_len t
  have hm : maxLen = 9223372036854775807 := rfl
  have loop : ∀ (q i : Nat), i ≤ t.rvars.length → t.rvars.length < q + i → Lp74_0 (evw E) (t.rvars.length + 1) h q h (.sl 6 (d.map Bind.cells)) (.sl 1 (t.rvars.map strC)) (.lit (.int .i64 (t.rvars.length : Int))) (.lit (.int .i64 (i : Int))) = some (.ret (.lit (.bool ((t.rvars.drop i).all fun s => (findB d s).isSome))), h) := by
    intro q
    induction q with
    | zero => intro i h1 h2; omega
    | succ q ih =>
      intro i h1 h2
      rw [Lp74_0_succ, bin_int, lssI, bind_some', boolB, bind_some']
      by_cases hi : i < t.rvars.length
      · rw [ltT hi, condT, indexA_map _ _ _ _ hi, bind_some', part_str, bind_some', bfind38 d (by omega), onOut_ret, tupS, bind_some', t20, bind_some', bind_some', t21, bind_some', aggS, bind_some', Ty.cells_len, b5, condT, notB, bind_some', boolB, bind_some', List.drop_eq_getElem_cons hi, List.all_cons]
        cases (findB d t.rvars[i]).isSome with
        | false => rfl
        | true => rw [Bool.not_true, condF, bin_int, addI, bind_some', incI (by omega), ih (i + 1) hi (by omega), Bool.true_and]
      · rw [ltF hi, condF, List.drop_of_length_le (by omega)]; rfl
  refine evw_run primsC (t.rvars.length + 1) rfl rfl rfl ?_
  rw [nf74, aggS, bind_some', Ty.cells_len, b5, condT, Ty.refold, vars29 t ok hv, onOut_ret, lenA23, bind_some', List.length_map]
  have := loop (t.rvars.length + 1) 0 (Nat.zero_le _) (by omega)
  rw [List.drop_zero] at this
  exact this
end Go.Sh.T
