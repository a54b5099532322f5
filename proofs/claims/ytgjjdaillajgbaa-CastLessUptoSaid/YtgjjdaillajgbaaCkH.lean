/- CkH: part of the proof: a shadow of the machine that is proved sound, and what the functions of this seat compute. Conditions: none. -/
import Derived.Test.YtgjjdaillajgbaaCkE
/- What the laws of casts ask. -/
namespace Go.Sh.T
open Go Go.Sh
set_option linter.unusedSimpArgs false
set_option linter.unusedVariables false
set_option maxRecDepth 100000

noncomputable def smallB (l : List Seal) (v : Val) (ts : List Ty) : Bool := ts.all (fun t => !decide (t.much > 150)) && (decide (few15 l ≤ 60) && decide (v.much ≤ 250))
theorem small56 (l : List Seal) (hl : l.length ≤ maxLen) (ol : ∀ s ∈ l, s.Ok) (v : Val) (ov : v.Ok) (ts : List Ty) (hts : ts.length ≤ maxLen) (ot : ∀ t ∈ ts, t.Ok) (h : Heap) :
    evw E 56 [.sl 12 (l.map Seal.cells), .agg v.cells, .sl 5 (ts.map Ty.cells)] h = some (.ret (.lit (.bool (smallB l v ts))), h) := by
  have hts : ts.length ≤ 9223372036854775807 := hts
  have loop : ∀ (q i : Nat), i ≤ ts.length → ts.length < q + i → Lp56_0 (evw E) (ts.length + 1) h q h (.sl 12 (l.map Seal.cells)) (.sl 5 (ts.map Ty.cells)) (v.cells.getD 0 .dead) (v.cells.getD 1 .dead) (v.cells.getD 2 .dead) (v.cells.getD 3 .dead) (v.cells.getD 4 .dead) (v.cells.getD 5 .dead) (v.cells.getD 6 .dead) (v.cells.getD 7 .dead) (v.cells.getD 8 .dead) (v.cells.getD 9 .dead) (.lit (.int .i64 (i : Int))) = some (.ret (.lit (.bool ((ts.drop i).all (fun t => !decide (t.much > 150)) && (decide (few15 l ≤ 60) && decide (v.much ≤ 250))))), h) := by
    intro q
    induction q with
    | zero => intro i h1 h2; omega
    | succ q ih =>
      intro i h1 h2
      rw [Lp56_0_succ, lenA29, bind_some', List.length_map, bin_int, lssI, bind_some', boolB, bind_some']
      by_cases hi : i < ts.length
      · rw [ltT hi, condT, indexA_map _ _ _ _ hi, bind_some', partA_full (Ty.cells_len _), bind_some', much_spec _ _ (ot _ (List.getElem_mem hi)), onOut_ret, bin_int, gtrI, bind_some', boolB, bind_some', List.drop_eq_getElem_cons hi, List.all_cons]
        cases decide ((ts[i]).much > 150) with
        | true => rfl
        | false =>
          rw [condF, bin_int, addI, bind_some', incI (by omega)]
          exact ih (i + 1) hi (by omega)
      · rw [ltF hi, condF, List.drop_of_length_le (by omega), few15_spec l hl ol, onOut_ret, bin_int, leqI, bind_some', boolB, bind_some', Val.re, much48 v h ov]
        cases decide (few15 l ≤ 60) with
        | false => rfl
        | true => rw [condT, onOut_ret, bin_int, leqI, bind_some']; rfl
  refine evw_run primsC (ts.length + 1) rfl rfl rfl ?_
  rw [nf56, aggS, bind_some', Val.cells_len, b10, condT]
  have := loop (ts.length + 1) 0 (Nat.zero_le _) (by omega)
  rw [List.drop_zero] at this
  exact this
def sealsRight (l : List Seal) : Bool := l.all fun s => s.rep.right && s.bound.right
theorem t30 (x y z : AV) : ([x, y, z] : List AV)[0]? = some x := (Eq.refl _).trans rfl
theorem t31 (x y z : AV) : ([x, y, z] : List AV)[1]? = some y := (Eq.refl _).trans rfl
theorem t32 (x y z : AV) : ([x, y, z] : List AV)[2]? = some z := (Eq.refl _).trans rfl
theorem ty_vol {t : Ty} {m : Nat} (h : volC t.cells ≤ m) (hm : m ≤ 1048576) : t.vol ≤ 1048576 := Nat.le_trans h hm
theorem seals_vol2 {l : List Seal} {m : Nat} (h : volC [.sl 12 (l.map Seal.cells)] ≤ m) (hm : m ≤ 1048576) : ∀ s ∈ l, s.rep.vol ≤ 1048576 ∧ s.bound.vol ≤ 1048576 := by
  intro s hs
  have key : ∀ l : List Seal, s ∈ l → volC s.cells ≤ volE (l.map Seal.cells) := by
    intro l
    induction l with
    | nil => intro h; cases h
    | cons y r ih =>
      intro h
      rw [List.map_cons, volE]
      rcases List.mem_cons.1 h with e | e
      · rw [e]; exact Nat.le_add_right _ _
      · have := ih e; omega
  have h1 := key l hs
  simp only [volC, Sh.vol] at h
  rw [Seal.cells, volC_append, volC_append] at h1
  unfold Ty.vol
  omega
end Go.Sh.T

/- Values: whether they are right, and of a type: the reference's. -/
namespace Go.Sh.T
open Go Go.Sh
set_option linter.unusedSimpArgs false
set_option linter.unusedVariables false
set_option maxRecDepth 100000

theorem gate1' {ρ : Type} (m : Nat) (x : Option ρ) : gateK (m + 1) x = x := (Eq.refl _).trans rfl
theorem lenA9'' (s : ByteArray) : lenA E 9 (.lit (.string s)) = some (s.size : Int) := (Eq.refl _).trans (by kernel_rfl)
theorem eB (v : Val) (op : BinOp) (k : Int) : binAV E op 3 (v.cells.getD 0 .dead) (.lit (.int .i64 k)) = intBin op .i64 v.k k := by rw [Val.c0, bin_int]
theorem eT (t : Ty) (op : BinOp) (k : Int) : binAV E op 3 (t.cells.getD 0 .dead) (.lit (.int .i64 k)) = intBin op .i64 t.k k := by rw [Ty.c0, bin_int]
noncomputable def Val.placed (v : Val) : Bool := eqd v.df ByteArray.empty && eqd v.nd 0
noncomputable def ownQ (v : Val) : Bool := (!(eqd v.k 3) && !(eqd v.s ByteArray.empty)) || ((!(eqd v.k 4) && decide ((v.labels.length : Int) > 0)) || ((!(eqd v.k 6) && !v.placed) || (!(eqd v.k 7) && (!(eqd v.m 0) || v.inn))))
noncomputable def ownF (v : Val) : Bool := (eqd v.kids.length 1 && (v.kids.headD zeroV).fn) && ((v.types.all fun t => t.right && eqd t.k 7) && (bif eqd v.k 6 then eqd (v.types.length : Int) 2 && eqd v.n 0 else eqd v.k 7 && (eqd (v.types.length : Int) 1 && (decide (v.n ≥ 0) && decide (v.m ≥ v.n)))))
noncomputable def sumZ (v : Val) : Bool := eqd (add64 (v.types.length : Int) (v.kids.length : Int)) 0
noncomputable def Val.own (v : Val) : Bool := !ownQ v && (bif eqd v.k 1 then sumZ v else bif eqd v.k 2 then sumZ v && (eqd v.n 0 || eqd v.n 1) else bif eqd v.k 3 then sumZ v && (eqd v.n 0 && decide ((v.s.size : Int) ≤ 256)) else
  bif eqd v.k 4 then eqd (v.types.length : Int) 0 && (eqd v.n 0 && (eqd (v.kids.length : Int) (v.labels.length : Int) && risingR v.labels none)) else bif eqd v.k 5 then sumZ v && decide (v.n ≥ 0) else bif eqd v.k 8 then eqd (v.types.length : Int) 0 && (eqd (v.kids.length : Int) 1 && decide (v.n ≥ 0)) else ownF v)
abbrev vArgs (Sq : AV → AV → AV → AV → AV → AV → AV → AV → AV → AV → AV → R) (v : Val) (x : AV) : R := Sq (v.cells.getD 0 .dead) (v.cells.getD 1 .dead) (v.cells.getD 2 .dead) (v.cells.getD 3 .dead) (v.cells.getD 4 .dead) (v.cells.getD 5 .dead) (v.cells.getD 6 .dead) (v.cells.getD 7 .dead) (v.cells.getD 8 .dead) (v.cells.getD 9 .dead) x
theorem ownLoop (v : Val) (ov : v.Ok) (h0 h : Heap) : ∀ (q i : Nat), i ≤ v.types.length → v.types.length < q + i → Lp122_7 (evw E) (v.types.length + 1) h0 q h (v.cells.getD 0 .dead) (v.cells.getD 1 .dead) (v.cells.getD 2 .dead) (v.cells.getD 3 .dead) (v.cells.getD 4 .dead) (v.cells.getD 5 .dead) (v.cells.getD 6 .dead) (v.cells.getD 7 .dead) (v.cells.getD 8 .dead) (v.cells.getD 9 .dead) (.lit (.int .i64 (i : Int))) = some (.ret (.lit (.bool (((v.types.drop i).all fun t => t.right && eqd t.k 7) && (bif eqd v.k 6 then eqd (v.types.length : Int) 2 && eqd v.n 0 else eqd v.k 7 && (eqd (v.types.length : Int) 1 && (decide (v.n ≥ 0) && decide (v.m ≥ v.n))))))), h) := by
  have hl : v.types.length ≤ 9223372036854775807 := ov.tlen
  intro q
  induction q with
  | zero => intro i h1 h2; omega
  | succ q ih =>
    intro i h1 h2
    rw [Lp122_7_succ]
    simp only [Val.c0, Val.c1, Val.c2, Val.c7, lenA29, bind_some', List.length_map, bin_int, lssI, boolB]
    by_cases hi : i < v.types.length
    · have ot := ov.ty (List.getElem_mem hi)
      rw [ltT hi, condT, indexA_map _ _ _ _ hi, bind_some', partA_full (Ty.cells_len _), bind_some', right_spec _ _ ot, onOut_ret, notB, bind_some', boolB, bind_some', bind_some', Ty.cells_len, show Nat.ble 0 5 = true from rfl, condT, List.drop_zero, show partA false 1 0 (v.types[i]).cells = some (.lit (.int .i64 (v.types[i]).k)) from by rw [Ty.cells_eq]; rfl, bind_some', bin_int, neqE, bind_some', List.drop_eq_getElem_cons hi, List.all_cons]
      have hS : ∀ x : Bool, Sq122_8 (evw E) (v.types.length + 1) h0 q h (.lit (.int .i64 v.k)) (.lit (.int .i64 v.n)) (.lit (.int .i64 v.m)) (v.cells.getD 3 .dead) (v.cells.getD 4 .dead) (v.cells.getD 5 .dead) (v.cells.getD 6 .dead) (.sl 5 (v.types.map Ty.cells)) (v.cells.getD 8 .dead) (v.cells.getD 9 .dead) (.lit (.int .i64 (i : Int))) (.lit (.bool x)) =
          some (.ret (.lit (.bool (!x && (((v.types.drop (i + 1)).all fun t => t.right && eqd t.k 7) && (bif eqd v.k 6 then eqd (v.types.length : Int) 2 && eqd v.n 0 else eqd v.k 7 && (eqd (v.types.length : Int) 1 && (decide (v.n ≥ 0) && decide (v.m ≥ v.n)))))))), h) := by
        intro x
        rw [Sq122_8_eq, gate1', boolB, bind_some']
        cases x with
        | true => rfl
        | false =>
          have := ih (i + 1) hi (by omega)
          simp only [Val.c0, Val.c1, Val.c2, Val.c7] at this
          rw [condF, bin_int, addI, bind_some', incI (by omega), Bool.not_false, Bool.true_and]
          exact this
      rw [hS, hS]
      cases (v.types[i]).right <;> cases eqd (v.types[i]).k 7 <;> rfl
    · rw [ltF hi, condF, List.drop_of_length_le (by omega)]
      simp only [eqlE, geqI, boolB, bind_some', Sq122_9_eq, Sq122_10_eq, gate1']
      cases eqd v.k 6 with
      | true => cases eqd (v.types.length : Int) 2 <;> rfl
      | false =>
      cases eqd v.k 7 with
      | false => rfl
      | true =>
      cases eqd (v.types.length : Int) 1 with
      | false => rfl
      | true => cases decide (v.n ≥ 0) <;> rfl
theorem own6 (v : Val) (ov : v.Ok) (h0 h : Heap) (x : Bool) : vArgs (Sq122_6 (evw E) (v.types.length + 1) h0 h) v (.lit (.bool x)) = some (.ret (.lit (.bool (!x && ((v.types.all fun t => t.right && eqd t.k 7) && (bif eqd v.k 6 then eqd (v.types.length : Int) 2 && eqd v.n 0 else eqd v.k 7 && (eqd (v.types.length : Int) 1 && (decide (v.n ≥ 0) && decide (v.m ≥ v.n)))))))), h) := by
  show Sq122_6 _ _ _ _ _ _ _ _ _ _ _ _ _ _ _ = _
  rw [Sq122_6_eq, gate1', boolB, bind_some']
  cases x with
  | true => rfl
  | false =>
    have := ownLoop v ov h0 h (v.types.length + 1) 0 (Nat.zero_le _) (by omega)
    rw [List.drop_zero] at this
    rw [condF]; exact this
theorem own0 (v : Val) (ov : v.Ok) (h0 h : Heap) (x : Bool) : vArgs (Sq122_0 (evw E) (v.types.length + 1) h0 h) v (.lit (.bool x)) = some (.ret (.lit (.bool (!x && (bif eqd v.k 1 then sumZ v else bif eqd v.k 2 then sumZ v && (eqd v.n 0 || eqd v.n 1) else bif eqd v.k 3 then sumZ v && (eqd v.n 0 && decide ((v.s.size : Int) ≤ 256)) else
  bif eqd v.k 4 then eqd (v.types.length : Int) 0 && (eqd v.n 0 && (eqd (v.kids.length : Int) (v.labels.length : Int) && risingR v.labels none)) else bif eqd v.k 5 then sumZ v && decide (v.n ≥ 0) else bif eqd v.k 8 then eqd (v.types.length : Int) 0 && (eqd (v.kids.length : Int) 1 && decide (v.n ≥ 0)) else ownF v)))), h) := by
  have h6 := own6 v ov h0 h
  simp only [vArgs] at h6
  show Sq122_0 _ _ _ _ _ _ _ _ _ _ _ _ _ _ _ = _
  rw [Sq122_0_eq, gate1', boolB, bind_some']
  have e1 : eqd (v.kids.length : Int) 1 = eqd v.kids.length 1 := by rw [Bool.eq_iff_iff, eqd_iff, eqd_iff]; omega
  cases x with
  | true => rfl
  | false =>
  rw [condF, Bool.not_false, Bool.true_and]
  cases k1 : eqd v.k 1 with
  | true => simp only [Val.c0, Val.c7, Val.c9, bin_int, eqlE, k1, boolB, bind_some', condT, lenA29, lenA55, List.length_map, addI, cond_true]; rfl
  | false =>
  cases k2 : eqd v.k 2 with
  | true =>
    simp only [Val.c0, Val.c1, Val.c7, Val.c9, bin_int, eqlE, k1, k2, boolB, bind_some', condT, condF, lenA29, lenA55, List.length_map, addI, cond_true, cond_false, Sq122_1_eq, gate1']
    unfold sumZ
    cases eqd (add64 (v.types.length : Int) (v.kids.length : Int)) 0 <;> cases eqd v.n 0 <;> rfl
  | false =>
  cases k3 : eqd v.k 3 with
  | true =>
    simp only [Val.c0, Val.c1, Val.c4, Val.c7, Val.c9, bin_int, eqlE, leqI, k1, k2, k3, boolB, bind_some', condT, condF, lenA29, lenA55, lenA9'', List.length_map, addI, cond_true, cond_false, Sq122_2_eq, gate1']
    unfold sumZ
    cases eqd (add64 (v.types.length : Int) (v.kids.length : Int)) 0 <;> cases eqd v.n 0 <;> rfl
  | false =>
  cases k4 : eqd v.k 4 with
  | true =>
    simp only [Val.c0, Val.c1, Val.c7, Val.c8, Val.c9, bin_int, eqlE, k1, k2, k3, k4, boolB, bind_some', condT, condF, lenA29, lenA31, lenA55, List.length_map, cond_true, cond_false, Sq122_3_eq, gate1', rising_spec _ ov.lab, onOut_ret]
    cases eqd (v.types.length : Int) 0 <;> cases eqd v.n 0 <;> cases eqd (v.kids.length : Int) (v.labels.length : Int) <;> rfl
  | false =>
  cases k5 : eqd v.k 5 with
  | true =>
    simp only [Val.c0, Val.c1, Val.c7, Val.c9, bin_int, eqlE, geqI, k1, k2, k3, k4, k5, boolB, bind_some', condT, condF, lenA29, lenA55, List.length_map, addI, cond_true, cond_false, Sq122_4_eq, gate1']
    unfold sumZ
    cases eqd (add64 (v.types.length : Int) (v.kids.length : Int)) 0 <;> rfl
  | false =>
  cases k8 : eqd v.k 8 with
  | true =>
    simp only [Val.c0, Val.c1, Val.c7, Val.c9, bin_int, eqlE, geqI, k1, k2, k3, k4, k5, k8, boolB, bind_some', condT, condF, lenA29, lenA55, List.length_map, cond_true, cond_false, Sq122_5_eq, gate1']
    cases eqd (v.types.length : Int) 0 <;> cases eqd (v.kids.length : Int) 1 <;> rfl
  | false =>
  simp only [eB, eqlE, k1, k2, k3, k4, k5, k8, boolB, bind_some', condF, cond_false, h6]
  rw [Val.c9, lenA55, bind_some', List.length_map, bin_int, neqE, bind_some', boolB, bind_some', e1]
  unfold ownF
  cases hk : eqd v.kids.length 1 with
  | false => rfl
  | true =>
    have hkk : v.kids = [v.kids.headD zeroV] := one_head hk
    generalize v.kids.headD zeroV = y at hkk
    have j0 : indexA 10 (.sl 10 (v.kids.map Val.cells)) (.lit (.int .i64 0)) = some y.cells := by rw [hkk]; exact indexA_map [y] Val.cells 10 0 (show 0 < 1 by decide)
    have h6' := h6
    rw [Val.c9] at h6'
    rw [Bool.not_true, condF, j0, bind_some', partA_full (Val.cells_len _), bind_some', fun119, onOut_ret, notB, bind_some', h6', Bool.not_not, Bool.true_and]
theorem own122 (v : Val) (ov : v.Ok) (h : Heap) : evw E 122 [.agg v.cells] h = some (.ret (.lit (.bool v.own)), h) := by
  refine evw_run primsC (v.types.length + 1) rfl rfl rfl ?_
  rw [nf122]
  have h0 := fun h' x => own0 v ov h h' x
  simp only [vArgs] at h0
  have pl : binAV E .neq 25 (.agg [v.cells.getD 5 .dead, v.cells.getD 6 .dead]) (.agg [.lit (.string ByteArray.empty), .lit (.int .i64 0)]) = some (.lit (.bool (!v.placed))) := by rw [Val.c5, Val.c6, label_ne]; rfl
  have e4 : binAV E .neq 9 (v.cells.getD 4 .dead) (.lit (.string ByteArray.empty)) = some (.lit (.bool (!(eqd v.s ByteArray.empty)))) := by rw [Val.c4, bin_str, neS]
  have e2 : binAV E .neq 3 (v.cells.getD 2 .dead) (.lit (.int .i64 0)) = some (.lit (.bool (!(eqd v.m 0)))) := by rw [Val.c2, bin_int, neqE]
  have e8 : lenA E 31 (v.cells.getD 8 .dead) = some (v.labels.length : Int) := by rw [Val.c8, lenA31, List.length_map]
  have h3 : ∀ h', Sq122_0 (evw E) (v.types.length + 1) h h' (v.cells.getD 0 .dead) (v.cells.getD 1 .dead) (v.cells.getD 2 .dead) (v.cells.getD 3 .dead) (v.cells.getD 4 .dead) (v.cells.getD 5 .dead) (v.cells.getD 6 .dead) (v.cells.getD 7 .dead) (v.cells.getD 8 .dead) (v.cells.getD 9 .dead) (v.cells.getD 3 .dead) = Sq122_0 (evw E) (v.types.length + 1) h h' (v.cells.getD 0 .dead) (v.cells.getD 1 .dead) (v.cells.getD 2 .dead) (v.cells.getD 3 .dead) (v.cells.getD 4 .dead) (v.cells.getD 5 .dead) (v.cells.getD 6 .dead) (v.cells.getD 7 .dead) (v.cells.getD 8 .dead) (v.cells.getD 9 .dead) (.lit (.bool v.inn)) := fun h' => by
    have : v.cells.getD 3 .dead = .lit (.bool v.inn) := Val.c3 v
    exact congrArg _ this
  simp only [aggS, bind_some', Val.cells_len, b10, condT, h3]
  simp only [eB, neqE, boolB, bind_some', e4, e2, e8, pl, bin_int, gtrI, h0]
  unfold Val.own
  generalize (bif eqd v.k 1 then sumZ v else _) = Z
  unfold ownQ
  cases eqd v.k 3 <;> cases eqd v.s ByteArray.empty <;> cases eqd v.k 4 <;> cases decide ((v.labels.length : Int) > 0) <;> cases eqd v.k 6 <;> cases v.placed <;> cases eqd v.k 7 <;> cases eqd v.m 0 <;> rfl

mutual
noncomputable def Val.right : Val → Bool
  | ⟨k, n, m, b, s, d, e, ts, ls, xs⟩ => (Val.mk k n m b s d e ts ls xs).own && Val.rightL xs
noncomputable def Val.rightL : List Val → Bool
  | [] => true
  | c :: r => c.right && Val.rightL r
end
theorem Val.right_eq (v : Val) : v.right = (v.own && Val.rightL v.kids) := by cases v; rw [Val.right]
theorem Val.rightL_all : ∀ l : List Val, Val.rightL l = l.all Val.right
  | [] => by rw [Val.rightL]; rfl
  | c :: r => by rw [Val.rightL, List.all_cons, Val.rightL_all r]
theorem right65 : ∀ (v : Val) (h : Heap), v.Ok → evw E 65 [.agg v.cells] h = some (.ret (.lit (.bool v.right)), h)
  | v, h, ok => by
    have hl : v.kids.length ≤ 9223372036854775807 := ok.len
    have loop : ∀ (q i : Nat), i ≤ v.kids.length → v.kids.length < q + i → Lp65_0 (evw E) (v.kids.length + 1) h q h (v.cells.getD 0 .dead) (v.cells.getD 1 .dead) (v.cells.getD 2 .dead) (v.cells.getD 3 .dead) (v.cells.getD 4 .dead) (v.cells.getD 5 .dead) (v.cells.getD 6 .dead) (v.cells.getD 7 .dead) (v.cells.getD 8 .dead) (v.cells.getD 9 .dead) (.lit (.int .i64 (i : Int))) = some (.ret (.lit (.bool ((v.kids.drop i).all Val.right))), h) := by
      intro q
      induction q with
      | zero => intro i h1 h2; omega
      | succ q ih =>
        intro i h1 h2
        rw [Lp65_0_succ, Val.c9, lenA55, bind_some', List.length_map, bin_int, lssI, bind_some', boolB, bind_some']
        by_cases hi : i < v.kids.length
        · have hrec := right65 v.kids[i] h (ok.kid (List.getElem_mem hi))
          rw [ltT hi, condT, indexA_map _ _ _ _ hi, bind_some', partA_full (Val.cells_len _), bind_some', hrec, onOut_ret, notB, bind_some', boolB, bind_some', List.drop_eq_getElem_cons hi, List.all_cons, bin_int, addI, bind_some', incI (by omega)]
          cases e : (v.kids[i]).right with
          | false => rfl
          | true =>
            have := ih (i + 1) hi (by omega)
            rw [Val.c9] at this
            exact this
        · rw [ltF hi, condF, List.drop_of_length_le (by omega)]; rfl
    refine evw_run primsC (v.kids.length + 1) rfl rfl rfl ?_
    rw [nf65, aggS, bind_some', Val.cells_len, b10, condT, Val.re, own122 v ok, onOut_ret, notB, bind_some', boolB, bind_some', Val.right_eq, Val.rightL_all]
    cases v.own with
    | false => rfl
    | true =>
      have := loop (v.kids.length + 1) 0 (Nat.zero_le _) (by omega)
      rw [List.drop_zero] at this
      rw [Bool.not_true, condF]; exact this
  termination_by v => SizeOf.sizeOf v
  decreasing_by exact Val.size_kid hi

/- of a type -/
mutual
noncomputable def isV (l : List Seal) : Val → Ty → Bool
  | ⟨k, n, m, b, s, d, e, ts, ls, xs⟩, t => bif eqd t.k 1 then eqd k 1 else bif eqd t.k 2 then eqd k 2 else bif eqd t.k 3 then eqd k 3 else bif eqd t.k 7 then (eqd k 5 || (eqd k 6 || eqd k 7)) else
    bif eqd t.k 9 then eqd k 8 && (eqd n t.n && ((findT l n).2 && isV1 l xs (findT l n).1.rep)) else
    bif eqd t.k 8 then eqd k 4 && (eqd ls t.labels && (eqd (xs.length : Int) (t.args.length : Int) && isV2 l xs t.args)) else
    bif eqd t.k 4 || eqd t.k 5 then (bif eqd k 8 then (findT l n).2 && isV1 l xs (findT l n).1.rep else (bif eqd k 4 then isV3 l xs else true) && (eqd k 1 || (eqd k 2 || (eqd k 3 || (eqd k 4 || (eqd k 5 || (eqd k 6 || eqd k 7))))))) else false
noncomputable def isV1 (l : List Seal) : List Val → Ty → Bool
  | x :: r, t => (bif eqd r.length 0 then isV l x t else false)
  | [], _ => false
noncomputable def isV2 (l : List Seal) : List Val → List Ty → Bool
  | [], _ => true
  | x :: r, [] => true
  | x :: r, t :: ts => isV l x t && isV2 l r ts
noncomputable def isV3 (l : List Seal) : List Val → Bool
  | [] => true
  | x :: r => isV l x dynT && isV3 l r
end
theorem isV1_one (l : List Seal) (x : Val) (t : Ty) : isV1 l [x] t = isV l x t := by rw [isV1, show eqd ([] : List Val).length 0 = true from eqd_self _, cond_true]
theorem isV1_not (l : List Seal) (xs : List Val) (t : Ty) (h : eqd xs.length 1 = false) : isV1 l xs t = false := by
  match xs, h with
  | [], _ => rw [isV1]
  | [x], h => rw [show ([x] : List Val).length = 1 from rfl, eqd_self] at h; cases h
  | x :: y :: r, _ => rw [isV1, show eqd (y :: r).length 0 = false from eqd_f (by simp), cond_false]
theorem isV2_drop (l : List Seal) {xs : List Val} {ts : List Ty} {i : Nat} (h1 : i < xs.length) (h2 : i < ts.length) : isV2 l (xs.drop i) (ts.drop i) = (isV l xs[i] ts[i] && isV2 l (xs.drop (i + 1)) (ts.drop (i + 1))) := by
  rw [List.drop_eq_getElem_cons h1, List.drop_eq_getElem_cons h2, isV2]
theorem isV_eq (l : List Seal) (v : Val) (t : Ty) : isV l v t = bif eqd t.k 1 then eqd v.k 1 else bif eqd t.k 2 then eqd v.k 2 else bif eqd t.k 3 then eqd v.k 3 else bif eqd t.k 7 then v.fn else
    bif eqd t.k 9 then eqd v.k 8 && (eqd v.n t.n && ((findT l v.n).2 && isV1 l v.kids (findT l v.n).1.rep)) else
    bif eqd t.k 8 then eqd v.k 4 && (eqd v.labels t.labels && (eqd (v.kids.length : Int) (t.args.length : Int) && isV2 l v.kids t.args)) else
    bif eqd t.k 4 || eqd t.k 5 then (bif eqd v.k 8 then (findT l v.n).2 && isV1 l v.kids (findT l v.n).1.rep else (bif eqd v.k 4 then isV3 l v.kids else true) && (eqd v.k 1 || (eqd v.k 2 || (eqd v.k 3 || (eqd v.k 4 || v.fn))))) else false := by
  cases v; rw [isV]; rfl

theorem is66 (l : List Seal) (ol : ∀ s ∈ l, s.Ok) : ∀ (v : Val) (t : Ty) (h : Heap), v.Ok → t.Ok → evw E 66 [.sl 12 (l.map Seal.cells), .agg v.cells, .agg t.cells] h = some (.ret (.lit (.bool (isV l v t))), h)
  | v, t, h, ov, ot => by
    have hl : v.kids.length ≤ 9223372036854775807 := ov.len
    have rck : ∀ i (hi : i < v.kids.length) (u : Ty), u.Ok → evw E 66 [.sl 12 (l.map Seal.cells), .agg (v.kids[i]).cells, .agg u.cells] h = some (.ret (.lit (.bool (isV l v.kids[i] u))), h) := fun i hi u ou => is66 l ol v.kids[i] u h (ov.kid (List.getElem_mem hi)) ou
    have sealed : evw E 123 [.sl 12 (l.map Seal.cells), .agg v.cells] h = some (.ret (.lit (.bool ((findT l v.n).2 && isV1 l v.kids (findT l v.n).1.rep))), h) := by
      refine evw_run primsC 0 rfl rfl rfl ?_
      rw [nf123]
      simp only [aggS, bind_some', Val.cells_len, b10, condT, Val.c1, Val.c9, rfind_spec, onOut_ret, tupS, t20, t21, Seal.len, show Nat.beq 12 12 = true from rfl, Seal.reRep, boolB, lenA55, List.length_map, bin_int, eqlE]
      have e1 : eqd (v.kids.length : Int) 1 = eqd v.kids.length 1 := by rw [Bool.eq_iff_iff, eqd_iff, eqd_iff]; omega
      rw [e1]
      cases h3 : (findT l v.n).2 with
      | false => rfl
      | true =>
        rw [condT, Bool.true_and]
        cases h2 : eqd v.kids.length 1 with
        | false => rw [condF, isV1_not l _ _ h2]
        | true =>
          have h0 : 0 < v.kids.length := by have := eqd_iff.1 h2; omega
          have hone : ∀ (xs : List Val) (h0 : 0 < xs.length), xs.length = 1 → xs = [xs[0]] := by
            intro xs h0 h1
            match xs, h1 with
            | [x], _ => rfl
          have hk : v.kids = [v.kids[0]] := hone v.kids h0 (eqd_iff.1 h2)
          have hr := rck 0 h0 (findT l v.n).1.rep (ol _ (findT_mem h3)).rep
          have j0 := indexA_map v.kids Val.cells 10 0 h0
          rw [show ((0 : Nat) : Int) = 0 from rfl] at j0
          rw [condT, j0, bind_some', partA_full (Val.cells_len _), bind_some', hr, onOut_ret]
          have : isV1 l v.kids (findT l v.n).1.rep = isV l v.kids[0] (findT l v.n).1.rep := by
            generalize v.kids[0] = x at hk
            rw [hk, isV1_one]
          rw [this]
    have loop0 : ∀ (q i : Nat), i ≤ v.kids.length → v.kids.length < q + i → Lp66_0 (evw E) (v.kids.length + 1) h q h (.sl 12 (l.map Seal.cells)) (v.cells.getD 0 .dead) (v.cells.getD 1 .dead) (v.cells.getD 2 .dead) (v.cells.getD 3 .dead) (v.cells.getD 4 .dead) (v.cells.getD 5 .dead) (v.cells.getD 6 .dead) (v.cells.getD 7 .dead) (v.cells.getD 8 .dead) (v.cells.getD 9 .dead) (t.cells.getD 0 .dead) (t.cells.getD 1 .dead) (t.cells.getD 2 .dead) (t.cells.getD 3 .dead) (t.cells.getD 4 .dead) (.lit (.int .i64 (i : Int))) = some (.ret (.lit (.bool (isV2 l (v.kids.drop i) (t.args.drop i)))), h) := by
      intro q
      induction q with
      | zero => intro i h1 h2; omega
      | succ q ih =>
        intro i h1 h2
        have ihn := ih (i + 1)
        rw [Lp66_0_succ]
        simp only [Val.c9, Ty.c4] at ihn ⊢
        rw [lenA55, bind_some', List.length_map, bin_int, lssI, bind_some', boolB, bind_some']
        by_cases hi : i < v.kids.length
        · rw [ltT hi, condT, lenA29, bind_some', List.length_map, bin_int, lssI, bind_some', boolB, bind_some']
          by_cases hj : i < t.args.length
          · rw [ltT hj, condT, indexA_map _ _ _ _ hi, bind_some', partA_full (Val.cells_len _), bind_some', indexA_map _ _ _ _ hj, bind_some', partA_full (Ty.cells_len _), bind_some', rck i hi _ (ot.arg (List.getElem_mem hj)), onOut_ret, notB, bind_some', boolB, bind_some', isV2_drop l hi hj, bin_int, addI, bind_some', incI (by omega)]
            cases e : isV l v.kids[i] t.args[i] with
            | false => rfl
            | true => exact ihn hi (by omega)
          · rw [ltF hj, condF, show t.args.drop i = [] from List.drop_eq_nil_of_le (by omega), List.drop_eq_getElem_cons hi, isV2]
        · rw [ltF hi, condF, show v.kids.drop i = [] from List.drop_eq_nil_of_le (by omega), isV2]
    have loop1 : ∀ (q i : Nat), i ≤ v.kids.length → v.kids.length < q + i → Lp66_1 (evw E) (v.kids.length + 1) h q h (.sl 12 (l.map Seal.cells)) (v.cells.getD 0 .dead) (v.cells.getD 1 .dead) (v.cells.getD 2 .dead) (v.cells.getD 3 .dead) (v.cells.getD 4 .dead) (v.cells.getD 5 .dead) (v.cells.getD 6 .dead) (v.cells.getD 7 .dead) (v.cells.getD 8 .dead) (v.cells.getD 9 .dead) (.lit (.int .i64 (i : Int))) = some (.ret (.lit (.bool ((bif eqd v.k 4 then isV3 l (v.kids.drop i) else true) && (eqd v.k 1 || (eqd v.k 2 || (eqd v.k 3 || (eqd v.k 4 || v.fn))))))), h) := by
      intro q
      induction q with
      | zero => intro i h1 h2; omega
      | succ q ih =>
        intro i h1 h2
        have ihn := ih (i + 1)
        rw [Lp66_1_succ]
        simp only [Val.re, fun119, onOut_ret]
        simp only [Val.c9, Val.c0] at ihn ⊢
        have e0 : ∀ k : Int, binAV E .eql 3 (.lit (.int .i64 v.k)) (.lit (.int .i64 k)) = some (.lit (.bool (eqd v.k k))) := fun k => by rw [bin_int, eqlE]
        simp only [e0, bind_some', boolB]
        rw [lenA55, bind_some', List.length_map, bin_int, lssI, bind_some', boolB, bind_some']
        by_cases hi : i < v.kids.length
        · rw [ltT hi, condT]
          cases k4 : eqd v.k 4 with
          | false =>
            cases eqd v.k 1 <;> cases eqd v.k 2 <;> cases eqd v.k 3 <;> rfl
          | true =>
            rw [condT, indexA_map _ _ _ _ hi, bind_some', partA_full (Val.cells_len _), bind_some', dyn68, onOut_ret, rck i hi _ dynT_ok, onOut_ret, notB, bind_some', boolB, bind_some', List.drop_eq_getElem_cons hi, isV3, bin_int, addI, bind_some', incI (by omega)]
            rw [k4] at ihn
            cases e : isV l v.kids[i] dynT with
            | false => rfl
            | true => exact ihn hi (by omega)
        · rw [ltF hi, condF, show v.kids.drop i = [] from List.drop_eq_nil_of_le (by omega), isV3]
          cases eqd v.k 4 <;> cases eqd v.k 1 <;> cases eqd v.k 2 <;> cases eqd v.k 3 <;> rfl
    have l0 := loop0 (v.kids.length + 1) 0 (Nat.zero_le _) (by omega)
    have l1 := loop1 (v.kids.length + 1) 0 (Nat.zero_le _) (by omega)
    rw [List.drop_zero, List.drop_zero, show ((0 : Nat) : Int) = 0 from rfl] at l0
    rw [List.drop_zero, show ((0 : Nat) : Int) = 0 from rfl] at l1
    refine evw_run primsC (v.kids.length + 1) rfl rfl rfl ?_
    rw [nf66]
    have e1 : binAV E .eql 3 (v.cells.getD 1 .dead) (t.cells.getD 1 .dead) = some (.lit (.bool (eqd v.n t.n))) := by rw [Val.c1, Ty.c1, bin_int, eqlE]
    have e8 : evw E 79 [v.cells.getD 8 .dead, t.cells.getD 3 .dead] h = some (.ret (.lit (.bool (eqd v.labels t.labels))), h) := by rw [Val.c8, Ty.c3]; exact same79e _ _ ov.lab h
    have e9 : lenA E 55 (v.cells.getD 9 .dead) = some (v.kids.length : Int) := by rw [Val.c9, lenA55, List.length_map]
    have e4 : lenA E 29 (t.cells.getD 4 .dead) = some (t.args.length : Int) := by rw [Ty.c4, lenA29, List.length_map]
    simp only [aggS, bind_some', Val.cells_len, Ty.cells_len, b10, b5, condT, Val.re, eB, eT, eqlE, neqE, boolB, fun119, onOut_ret, e1, e8, e9, e4, sealed, notB, bin_int, l0, l1]
    rw [isV_eq]
    cases eqd t.k 1 with
    | true => rfl
    | false =>
    cases eqd t.k 2 with
    | true => rfl
    | false =>
    cases eqd t.k 3 with
    | true => rfl
    | false =>
    cases eqd t.k 7 with
    | true => rfl
    | false =>
    cases eqd t.k 9 with
    | true => cases eqd v.k 8 <;> cases eqd v.n t.n <;> rfl
    | false =>
    cases eqd t.k 8 with
    | true => cases eqd v.k 4 <;> cases eqd v.labels t.labels <;> cases eqd (v.kids.length : Int) (t.args.length : Int) <;> rfl
    | false =>
    cases eqd t.k 4 <;> cases eqd t.k 5 <;> cases eqd v.k 8 <;> rfl
  termination_by v => SizeOf.sizeOf v
  decreasing_by exact Val.size_kid hi
end Go.Sh.T

/- The cast, case by case; what is cast is of the other type. -/
namespace Go.Sh.T
open Go Go.Sh
set_option linter.unusedSimpArgs false
set_option linter.unusedVariables false
set_option maxRecDepth 100000

noncomputable abbrev outFields (d : DoF) (v : Val) (b : Ty) (s : ByteArray) (n : Int) : Got := fieldsF (fun i y => match b.args[i]? with | some t => d y dynT t s n | none => .bl s n) v b.labels s n
noncomputable abbrev inFields (d : DoF) (v : Val) (a : Ty) (s : ByteArray) (n : Int) : Got := fieldsF (fun i y => match a.args[i]? with | some t => d y t dynT s n | none => .bl s n) v a.labels s n
def Base (t : Ty) (v : Val) : Prop := (t.k = 1 ∧ v.k = 1) ∨ (t.k = 2 ∧ v.k = 2) ∨ (t.k = 3 ∧ v.k = 3)
/-- Why a cast blames its own label at once. -/
inductive BlWhy (v : Val) (a b : Ty) : Prop
  | sealN (ha : a.k = 9) (hb : b.loose = false) (h : ¬ (v.k = 8 ∧ v.n = a.n))
  | outBase (ha : a.loose = true) (hb : b.k = 1 ∨ b.k = 2 ∨ b.k = 3) (hv : v.k ≠ 8) (h : v.k ≠ b.k)
  | out (ha : a.loose = true) (hb : b.loose = false) (hv : v.k ≠ 8) (h : b.k ≠ 1 ∧ b.k ≠ 2 ∧ b.k ≠ 3 ∧ b.k ≠ 7 ∧ b.k ≠ 8)
  | inBase (hb : b.loose = true) (ha : a.k = 1 ∨ a.k = 2 ∨ a.k = 3) (h : v.k ≠ a.k)
  | inn (hb : b.loose = true) (ha : a.loose = false) (h9 : a.k ≠ 9) (h : a.k ≠ 1 ∧ a.k ≠ 2 ∧ a.k ≠ 3 ∧ a.k ≠ 7 ∧ a.k ≠ 8)
  | far (hab : a ≠ b) (ha : a.loose = false) (hb : b.loose = false) (h9 : a.k ≠ 9) (h7 : ¬ (a.k = 7 ∧ b.k = 7)) (h8 : ¬ (a.k = 8 ∧ b.k = 8))

theorem eqd_ne {α : Type} {a b : α} (h : eqd a b = false) : a ≠ b := fun e => by rw [e, eqd_self] at h; cases h
theorem and_f {a b : Bool} (h : (a && b) = false) : ¬ (a = true ∧ b = true) := fun ⟨h1, h2⟩ => by rw [h1, h2] at h; cases h

theorem stepF_cases {P : Got → Prop} (d : DoF) (l : List Seal) (v : Val) (a b : Ty) (s : ByteArray) (n : Int)
    (h_same : a = b → P (.ok v)) (h_sl : a.k = 9 → b.loose = true → P (.ok v)) (h_seal : a.k = 9 → b.loose = false → v.k = 8 → v.n = a.n → P (revealF d l v b s n)) (h_bl : BlWhy v a b → P (.bl s n))
    (h_loose : a.loose = true → b.loose = true → P (.ok v)) (h_oseal : a.loose = true → v.k = 8 → b.k = 9 → b.n = v.n → P (.ok v)) (h_orev : a.loose = true → b.loose = false → v.k = 8 → P (revealF d l v b s n))
    (h_obase : a.loose = true → Base b v → P (.ok v)) (h_ofun : a.loose = true → v.k ≠ 8 → b.k = 7 → P (wrapV (knownV v).1 (knownV v).2 b s n)) (h_orec : a.loose = true → v.k ≠ 8 → b.k = 8 → P (outFields d v b s n))
    (h_ibase : b.loose = true → Base a v → P (.ok v)) (h_ifun : b.loose = true → a.k = 7 → P (wrapV v a unkT s n)) (h_irec : b.loose = true → a.k = 8 → P (inFields d v a s n))
    (h_fun : a ≠ b → a.k = 7 → b.k = 7 → P (wrapV v a b s n)) (h_rec : a ≠ b → a.k = 8 → b.k = 8 → P (recsF d v a b s n)) : P (stepF d l v a b s n) := by
  unfold stepF
  cases h1 : eqd a b with
  | true => exact h_same (eqd_iff.1 h1)
  | false =>
  have hab := eqd_ne h1
  rw [cond_false]
  cases h2 : eqd a.k 9 && b.loose with
  | true => rw [Bool.and_eq_true] at h2; exact h_sl (eqd_iff.1 h2.1) h2.2
  | false =>
  rw [cond_false]
  cases h3 : eqd a.k 9 with
  | true =>
    rw [h3, Bool.true_and] at h2
    rw [cond_true]
    cases h4 : eqd v.k 8 && eqd v.n a.n with
    | true => rw [Bool.and_eq_true] at h4; exact h_seal (eqd_iff.1 h3) h2 (eqd_iff.1 h4.1) (eqd_iff.1 h4.2)
    | false => exact h_bl (.sealN (eqd_iff.1 h3) h2 fun ⟨e1, e2⟩ => and_f h4 ⟨eqd_iff.2 e1, eqd_iff.2 e2⟩)
  | false =>
  have h9 := eqd_ne h3
  rw [cond_false]
  cases h5 : a.loose with
  | true =>
    cases h6 : b.loose with
    | true => exact h_loose h5 h6
    | false =>
    rw [Bool.and_false, cond_false, cond_true]
    unfold outF
    cases g1 : eqd v.k 8 with
    | true =>
      rw [cond_true]
      cases g2 : eqd b.k 9 && eqd b.n v.n with
      | true => rw [Bool.and_eq_true] at g2; exact h_oseal h5 (eqd_iff.1 g1) (eqd_iff.1 g2.1) (eqd_iff.1 g2.2)
      | false => exact h_orev h5 h6 (eqd_iff.1 g1)
    | false =>
      have hv := eqd_ne g1
      rw [cond_false]
      cases k1 : eqd b.k 1 with
      | true =>
        cases e : eqd v.k 1 with
        | true => exact h_obase h5 (.inl ⟨eqd_iff.1 k1, eqd_iff.1 e⟩)
        | false => exact h_bl (.outBase h5 (.inl (eqd_iff.1 k1)) hv (by rw [eqd_iff.1 k1]; exact eqd_ne e))
      | false =>
      cases k2 : eqd b.k 2 with
      | true =>
        cases e : eqd v.k 2 with
        | true => exact h_obase h5 (.inr (.inl ⟨eqd_iff.1 k2, eqd_iff.1 e⟩))
        | false => exact h_bl (.outBase h5 (.inr (.inl (eqd_iff.1 k2))) hv (by rw [eqd_iff.1 k2]; exact eqd_ne e))
      | false =>
      cases k3 : eqd b.k 3 with
      | true =>
        cases e : eqd v.k 3 with
        | true => exact h_obase h5 (.inr (.inr ⟨eqd_iff.1 k3, eqd_iff.1 e⟩))
        | false => exact h_bl (.outBase h5 (.inr (.inr (eqd_iff.1 k3))) hv (by rw [eqd_iff.1 k3]; exact eqd_ne e))
      | false =>
      rw [cond_false, cond_false, cond_false]
      cases k7 : eqd b.k 7 with
      | true => exact h_ofun h5 hv (eqd_iff.1 k7)
      | false =>
      cases k8 : eqd b.k 8 with
      | true => exact h_orec h5 hv (eqd_iff.1 k8)
      | false => exact h_bl (.out h5 h6 hv ⟨eqd_ne k1, eqd_ne k2, eqd_ne k3, eqd_ne k7, eqd_ne k8⟩)
  | false =>
  rw [Bool.false_and, cond_false, cond_false]
  cases h6 : b.loose with
  | true =>
    rw [cond_true]
    unfold inF
    cases k1 : eqd a.k 1 with
    | true =>
      cases e : eqd v.k 1 with
      | true => exact h_ibase h6 (.inl ⟨eqd_iff.1 k1, eqd_iff.1 e⟩)
      | false => exact h_bl (.inBase h6 (.inl (eqd_iff.1 k1)) (by rw [eqd_iff.1 k1]; exact eqd_ne e))
    | false =>
    cases k2 : eqd a.k 2 with
    | true =>
      cases e : eqd v.k 2 with
      | true => exact h_ibase h6 (.inr (.inl ⟨eqd_iff.1 k2, eqd_iff.1 e⟩))
      | false => exact h_bl (.inBase h6 (.inr (.inl (eqd_iff.1 k2))) (by rw [eqd_iff.1 k2]; exact eqd_ne e))
    | false =>
    cases k3 : eqd a.k 3 with
    | true =>
      cases e : eqd v.k 3 with
      | true => exact h_ibase h6 (.inr (.inr ⟨eqd_iff.1 k3, eqd_iff.1 e⟩))
      | false => exact h_bl (.inBase h6 (.inr (.inr (eqd_iff.1 k3))) (by rw [eqd_iff.1 k3]; exact eqd_ne e))
    | false =>
    rw [cond_false, cond_false, cond_false]
    cases k7 : eqd a.k 7 with
    | true => exact h_ifun h6 (eqd_iff.1 k7)
    | false =>
    cases k8 : eqd a.k 8 with
    | true => exact h_irec h6 (eqd_iff.1 k8)
    | false => exact h_bl (.inn h6 h5 h9 ⟨eqd_ne k1, eqd_ne k2, eqd_ne k3, eqd_ne k7, eqd_ne k8⟩)
  | false =>
  rw [cond_false]
  cases h7 : eqd a.k 7 && eqd b.k 7 with
  | true => rw [Bool.and_eq_true] at h7; exact h_fun hab (eqd_iff.1 h7.1) (eqd_iff.1 h7.2)
  | false =>
  rw [cond_false]
  cases h8 : eqd a.k 8 && eqd b.k 8 with
  | true => rw [Bool.and_eq_true] at h8; exact h_rec hab (eqd_iff.1 h8.1) (eqd_iff.1 h8.2)
  | false => exact h_bl (.far hab h5 h6 h9 (fun ⟨e1, e2⟩ => and_f h7 ⟨eqd_iff.2 e1, eqd_iff.2 e2⟩) fun ⟨e1, e2⟩ => and_f h8 ⟨eqd_iff.2 e1, eqd_iff.2 e2⟩)

/- of a type -/
theorem loose_k {t : Ty} (h : t.loose = true) : t.k = 5 ∨ t.k = 4 := by
  unfold Ty.loose at h
  rw [Bool.or_eq_true] at h
  exact h.imp eqd_iff.1 eqd_iff.1
theorem loose_f {t : Ty} (h : t.loose = false) : t.k ≠ 5 ∧ t.k ≠ 4 := by
  unfold Ty.loose at h
  rw [Bool.or_eq_false_iff] at h
  exact ⟨eqd_ne h.1, eqd_ne h.2⟩
theorem eqdN {a b : Int} (h : a ≠ b) : eqd a b = false := eqd_f h
section
variable {l : List Seal}
theorem isV_loose {v : Val} {t : Ty} (h : t.loose = true) : isV l v t = (bif eqd v.k 8 then (findT l v.n).2 && isV1 l v.kids (findT l v.n).1.rep else (bif eqd v.k 4 then isV3 l v.kids else true) && (eqd v.k 1 || (eqd v.k 2 || (eqd v.k 3 || (eqd v.k 4 || v.fn))))) := by
  rw [isV_eq]
  rcases loose_k h with e | e <;> rw [e]
  · simp only [eqdN (show (5 : Int) ≠ 1 by decide), eqdN (show (5 : Int) ≠ 2 by decide), eqdN (show (5 : Int) ≠ 3 by decide), eqdN (show (5 : Int) ≠ 7 by decide), eqdN (show (5 : Int) ≠ 9 by decide), eqdN (show (5 : Int) ≠ 8 by decide), eqd_self, Bool.or_true, cond_true, cond_false]
  · simp only [eqdN (show (4 : Int) ≠ 1 by decide), eqdN (show (4 : Int) ≠ 2 by decide), eqdN (show (4 : Int) ≠ 3 by decide), eqdN (show (4 : Int) ≠ 7 by decide), eqdN (show (4 : Int) ≠ 9 by decide), eqdN (show (4 : Int) ≠ 8 by decide), eqd_self, Bool.true_or, cond_true, cond_false]
theorem dynT_loose : dynT.loose = true := by unfold Ty.loose; rw [show eqd dynT.k 5 = true from eqd_self _]; rfl
theorem isV_dyn {v : Val} {t : Ty} (h : t.loose = true) : isV l v t = isV l v dynT := by rw [isV_loose h, isV_loose dynT_loose]
theorem isV_base {v : Val} {t : Ty} (hb : Base t v) : isV l v t = true := by
  rw [isV_eq]
  rcases hb with ⟨e1, e2⟩ | ⟨e1, e2⟩ | ⟨e1, e2⟩ <;> rw [e1, e2] <;> simp only [eqd_self, eqdN (show (2 : Int) ≠ 1 by decide), eqdN (show (3 : Int) ≠ 1 by decide), eqdN (show (3 : Int) ≠ 2 by decide), cond_true, cond_false]
theorem isV_fun {v : Val} {t : Ty} (ht : t.k = 7) : isV l v t = v.fn := by
  rw [isV_eq, ht]
  simp only [eqd_self, eqdN (show (7 : Int) ≠ 1 by decide), eqdN (show (7 : Int) ≠ 2 by decide), eqdN (show (7 : Int) ≠ 3 by decide), cond_true, cond_false]
theorem isV_rec {v : Val} {t : Ty} (ht : t.k = 8) : isV l v t = (eqd v.k 4 && (eqd v.labels t.labels && (eqd (v.kids.length : Int) (t.args.length : Int) && isV2 l v.kids t.args))) := by
  rw [isV_eq, ht]
  simp only [eqd_self, eqdN (show (8 : Int) ≠ 1 by decide), eqdN (show (8 : Int) ≠ 2 by decide), eqdN (show (8 : Int) ≠ 3 by decide), eqdN (show (8 : Int) ≠ 7 by decide), eqdN (show (8 : Int) ≠ 9 by decide), cond_true, cond_false]
theorem isV_seal {v : Val} {t : Ty} (ht : t.k = 9) : isV l v t = (eqd v.k 8 && (eqd v.n t.n && ((findT l v.n).2 && isV1 l v.kids (findT l v.n).1.rep))) := by
  rw [isV_eq, ht]
  simp only [eqd_self, eqdN (show (9 : Int) ≠ 1 by decide), eqdN (show (9 : Int) ≠ 2 by decide), eqdN (show (9 : Int) ≠ 3 by decide), eqdN (show (9 : Int) ≠ 7 by decide), cond_true, cond_false]
theorem isV_var {v : Val} {t : Ty} (h1 : t.k ≠ 1) (h2 : t.k ≠ 2) (h3 : t.k ≠ 3) (h7 : t.k ≠ 7) (h8 : t.k ≠ 8) (h9 : t.k ≠ 9) (hl : t.loose = false) : isV l v t = false := by
  have h := loose_f hl
  rw [isV_eq, eqdN h1, eqdN h2, eqdN h3, eqdN h7, eqdN h8, eqdN h9, eqdN h.1, eqdN h.2]; rfl
theorem isV2_get : ∀ {xs : List Val} {ts : List Ty} {i : Nat} {x : Val} {t : Ty}, isV2 l xs ts = true → xs[i]? = some x → ts[i]? = some t → isV l x t = true
  | [], ts, i, x, t, h, h1, h2 => by simp at h1
  | y :: r, [], i, x, t, h, h1, h2 => by simp at h2
  | y :: r, u :: us, i, x, t, h, h1, h2 => by
    rw [isV2, Bool.and_eq_true] at h
    cases i with
    | zero => simp only [List.getElem?_cons_zero, Option.some.injEq] at h1 h2; rw [← h1, ← h2]; exact h.1
    | succ i => exact isV2_get h.2 (by simpa using h1) (by simpa using h2)
theorem isV2_all : ∀ {xs : List Val} {ts : List Ty}, (∀ (i : Nat) (x : Val) (t : Ty), xs[i]? = some x → ts[i]? = some t → isV l x t = true) → isV2 l xs ts = true
  | [], ts, h => by rw [isV2]
  | y :: r, [], h => by rw [isV2]
  | y :: r, u :: us, h => by
    rw [isV2, h 0 y u rfl rfl, Bool.true_and]
    exact isV2_all fun i x t h1 h2 => h (i + 1) x t (by simpa using h1) (by simpa using h2)
theorem isV3_iff : ∀ {xs : List Val}, isV3 l xs = true ↔ ∀ x ∈ xs, isV l x dynT = true
  | [] => by rw [isV3]; exact ⟨fun _ x h => (by cases h), fun _ => rfl⟩
  | y :: r => by
    rw [isV3, Bool.and_eq_true, isV3_iff (xs := r)]
    refine ⟨?_, fun h => ⟨h y List.mem_cons_self, fun x hx => h x (List.mem_cons_of_mem _ hx)⟩⟩
    rintro ⟨h1, h2⟩ x hx
    rcases List.mem_cons.1 hx with e | e
    · rw [e]; exact h1
    · exact h2 x e
theorem isV1_iff {xs : List Val} {t : Ty} (h : isV1 l xs t = true) : ∃ x, xs = [x] ∧ isV l x t = true := by
  match xs, h with
  | [x], h => rw [isV1_one] at h; exact ⟨x, rfl, h⟩
  | [], h => rw [isV1] at h; cases h
  | x :: y :: r, h => rw [isV1_not l _ _ (eqd_f (by simp))] at h; cases h
theorem fn_k {v : Val} (h : v.fn = true) : v.k = 5 ∨ v.k = 6 ∨ v.k = 7 := by
  unfold Val.fn at h
  simp only [Bool.or_eq_true, eqd_iff] at h; exact h

/-- A value of a type is of ?. -/
theorem isV_known : ∀ (v : Val) (t : Ty), isV l v t = true → isV l v dynT = true
  | v, t, h => by
    have ihk : ∀ x ∈ v.kids, ∀ u, isV l x u = true → isV l x dynT = true := fun x hx u => isV_known x u
    cases hl : t.loose with
    | true => rw [← isV_dyn hl]; exact h
    | false =>
      rw [isV_loose dynT_loose]
      by_cases h1 : t.k = 1
      · rw [isV_eq, h1, eqd_self, cond_true] at h
        rw [eqd_iff.1 h]; simp [eqd_self, eqdN (show (1 : Int) ≠ 8 by decide), eqdN (show (1 : Int) ≠ 4 by decide)]
      by_cases h2 : t.k = 2
      · rw [isV_eq, h2, eqdN (show (2 : Int) ≠ 1 by decide), eqd_self, cond_false, cond_true] at h
        rw [eqd_iff.1 h]; simp [eqd_self, eqdN (show (2 : Int) ≠ 8 by decide), eqdN (show (2 : Int) ≠ 4 by decide)]
      by_cases h3 : t.k = 3
      · rw [isV_eq, h3, eqdN (show (3 : Int) ≠ 1 by decide), eqdN (show (3 : Int) ≠ 2 by decide), eqd_self, cond_false, cond_false, cond_true] at h
        rw [eqd_iff.1 h]; simp [eqd_self, eqdN (show (3 : Int) ≠ 8 by decide), eqdN (show (3 : Int) ≠ 4 by decide)]
      by_cases h7 : t.k = 7
      · rw [isV_fun h7] at h
        rw [h]
        rcases fn_k h with e | e | e <;> rw [e] <;> simp [eqdN (show (5 : Int) ≠ 8 by decide), eqdN (show (5 : Int) ≠ 4 by decide), eqdN (show (6 : Int) ≠ 8 by decide), eqdN (show (6 : Int) ≠ 4 by decide), eqdN (show (7 : Int) ≠ 8 by decide), eqdN (show (7 : Int) ≠ 4 by decide)]
      by_cases h9 : t.k = 9
      · rw [isV_seal h9] at h
        simp only [Bool.and_eq_true] at h
        rw [h.1, cond_true, h.2.2.1, h.2.2.2]; rfl
      by_cases h8 : t.k = 8
      · rw [isV_rec h8] at h
        simp only [Bool.and_eq_true] at h
        obtain ⟨k4, k5, k6, k7⟩ := h
        have hlen : (v.kids.length : Int) = (t.args.length : Int) := eqd_iff.1 k6
        rw [eqd_iff.1 k4, eqdN (show (4 : Int) ≠ 8 by decide), cond_false, eqd_self, cond_true]
        have : isV3 l v.kids = true := isV3_iff.2 fun x hx => by
          obtain ⟨i, hi⟩ := List.mem_iff_getElem?.1 hx
          have hil : i < t.args.length := by have := (List.getElem?_eq_some_iff.1 hi).1; omega
          exact ihk x hx _ (isV2_get k7 hi (List.getElem?_eq_getElem hil))
        rw [this]; simp [eqd_self]
      · rw [isV_var h1 h2 h3 h7 h8 h9 hl] at h; cases h
  termination_by v => SizeOf.sizeOf v
  decreasing_by
    have := List.sizeOf_lt_of_mem hx
    cases v; simp only [Val.mk.sizeOf_spec] at *; omega
end

/- right values -/
theorem rightL_memV : ∀ {l : List Val} {x : Val}, Val.rightL l = true → x ∈ l → x.right = true
  | y :: r, x, h, hx => by
    rw [Val.rightL, Bool.and_eq_true] at h
    rcases List.mem_cons.1 hx with e | e
    · rw [e]; exact h.1
    · exact rightL_memV h.2 e
theorem right_kid {v x : Val} (h : v.right = true) (hx : x ∈ v.kids) : x.right = true := by
  rw [Val.right_eq, Bool.and_eq_true] at h
  exact rightL_memV h.2 hx
theorem rightL_of : ∀ {l : List Val}, (∀ x ∈ l, x.right = true) → Val.rightL l = true
  | [], _ => by rw [Val.rightL]
  | y :: r, h => by rw [Val.rightL, h y List.mem_cons_self, rightL_of fun x hx => h x (List.mem_cons_of_mem _ hx)]; rfl
theorem right_cast {v : Val} (h : v.right = true) (hk : v.k = 6) : (∃ x, v.kids = [x] ∧ x.fn = true) ∧ (∀ t ∈ v.types, t.right = true ∧ t.k = 7) ∧ v.types.length = 2 := by
  rw [Val.right_eq, Bool.and_eq_true] at h
  have ho := h.1
  unfold Val.own ownF at ho
  rw [hk] at ho
  simp only [eqdN (show (6 : Int) ≠ 1 by decide), eqdN (show (6 : Int) ≠ 2 by decide), eqdN (show (6 : Int) ≠ 3 by decide), eqdN (show (6 : Int) ≠ 4 by decide), eqdN (show (6 : Int) ≠ 5 by decide), eqdN (show (6 : Int) ≠ 8 by decide), eqd_self, cond_true, cond_false, Bool.and_eq_true] at ho
  obtain ⟨_, ⟨h1, h2⟩, h3, h4, _⟩ := ho
  refine ⟨⟨v.kids.headD zeroV, one_head h1, h2⟩, fun t ht => ?_, by have := eqd_iff.1 h4; omega⟩
  have := List.all_eq_true.1 h3 t ht
  rw [Bool.and_eq_true] at this
  exact ⟨this.1, eqd_iff.1 this.2⟩
theorem castNode_right {a b : Ty} {s : ByteArray} {n : Int} {v : Val} (hv : v.right = true) (hf : v.fn = true) (ha : a.right = true) (ha7 : a.k = 7) (hb : b.right = true) (hb7 : b.k = 7) : (Val.mk 6 0 0 false ByteArray.empty s n [a, b] [] [v]).right = true := by
  rw [Val.right_eq, Bool.and_eq_true]
  refine ⟨?_, rightL_of fun x hx => by rw [List.mem_singleton.1 hx]; exact hv⟩
  unfold Val.own ownF ownQ
  simp only [eqdN (show (6 : Int) ≠ 1 by decide), eqdN (show (6 : Int) ≠ 2 by decide), eqdN (show (6 : Int) ≠ 3 by decide), eqdN (show (6 : Int) ≠ 4 by decide), eqdN (show (6 : Int) ≠ 5 by decide), eqdN (show (6 : Int) ≠ 7 by decide), eqdN (show (6 : Int) ≠ 8 by decide), eqd_self, cond_true, cond_false, List.length_cons, List.length_nil, List.headD_cons, hf, List.all_cons, List.all_nil, ha, ha7, hb, hb7]
  simp [eqd_self]
theorem recV_right {ls : List ByteArray} {ks : List Val} (hr : risingR ls none = true) (hl : ks.length = ls.length) (hk : ∀ x ∈ ks, x.right = true) : (recV ls ks).right = true := by
  rw [Val.right_eq, Bool.and_eq_true]
  refine ⟨?_, rightL_of hk⟩
  unfold Val.own ownQ recV Val.placed
  simp only [eqdN (show (4 : Int) ≠ 1 by decide), eqdN (show (4 : Int) ≠ 2 by decide), eqdN (show (4 : Int) ≠ 3 by decide), eqdN (show (4 : Int) ≠ 6 by decide), eqdN (show (4 : Int) ≠ 7 by decide), eqd_self, cond_true, cond_false, hr, hl]
  simp [eqd_self]
theorem right_recV {v : Val} (h : v.right = true) (hk : v.k = 4) : v.types = [] ∧ v.n = 0 ∧ v.m = 0 ∧ v.inn = false ∧ v.s = ByteArray.empty ∧ v.df = ByteArray.empty ∧ v.nd = 0 ∧ v.kids.length = v.labels.length ∧ risingR v.labels none = true := by
  rw [Val.right_eq, Bool.and_eq_true] at h
  have ho := h.1
  unfold Val.own ownQ Val.placed at ho
  rw [hk] at ho
  simp only [eqdN (show (4 : Int) ≠ 1 by decide), eqdN (show (4 : Int) ≠ 2 by decide), eqdN (show (4 : Int) ≠ 3 by decide), eqdN (show (4 : Int) ≠ 6 by decide), eqdN (show (4 : Int) ≠ 7 by decide), eqd_self, cond_true, cond_false, Bool.not_false, Bool.not_true, Bool.true_and, Bool.false_and, Bool.false_or, Bool.and_eq_true, Bool.not_eq_true', Bool.or_eq_false_iff, Bool.not_eq_false', Bool.and_eq_true] at ho
  obtain ⟨⟨h1, ⟨h2, h3⟩, h4, h5⟩, h6, h7, h8, h9⟩ := ho
  refine ⟨?_, eqd_iff.1 h7, eqd_iff.1 h4, h5, eqd_iff.1 h1, eqd_iff.1 h2, eqd_iff.1 h3, ?_, h9⟩
  · have := eqd_iff.1 h6
    exact List.eq_nil_of_length_eq_zero (by omega)
  · have := eqd_iff.1 h8; omega
end Go.Sh.T

/- What is cast is of the other type. -/
namespace Go.Sh.T
open Go Go.Sh
set_option linter.unusedSimpArgs false
set_option linter.unusedVariables false
set_option maxRecDepth 100000

theorem right_arg {t u : Ty} (h : t.right = true) (hu : u ∈ t.args) : u.right = true := by
  rw [Ty.right_eq, Bool.and_eq_true] at h
  exact rightL_mem h.1 hu
theorem bLess_irr : ∀ x : List UInt8, Op.bytesLess x x = false
  | [] => by rw [Op.bytesLess]
  | a :: r => by rw [Op.bytesLess, bLess_irr r, Bool.and_false, Bool.or_false]; simp
theorem bLess_trans : ∀ x y z : List UInt8, Op.bytesLess x y = true → Op.bytesLess y z = true → Op.bytesLess x z = true
  | x, [], z, h1, _ => by rw [Op.bytesLess] at h1; cases h1
  | x, b :: y, [], _, h2 => by rw [Op.bytesLess] at h2; cases h2
  | [], b :: y, c :: z, _, _ => by rw [Op.bytesLess]
  | a :: x, b :: y, c :: z, h1, h2 => by
    rw [Op.bytesLess, Bool.or_eq_true, Bool.and_eq_true] at h1 h2 ⊢
    rcases h1 with h1 | ⟨h1, h1'⟩
    · rcases h2 with h2 | ⟨h2, h2'⟩
      · left; simp only [decide_eq_true_eq] at h1 h2 ⊢; exact UInt8.lt_trans h1 h2
      · left; rw [← eq_of_beq h2]; exact h1
    · rcases h2 with h2 | ⟨h2, h2'⟩
      · left; rw [eq_of_beq h1]; exact h2
      · right; exact ⟨by rw [eq_of_beq h1]; exact h2, bLess_trans x y z h1' h2'⟩
theorem rising_gt : ∀ {r : List ByteArray} {q : ByteArray}, risingR r (some q) = true → ∀ x ∈ r, strLt q x = true
  | y :: r, q, h, x, hx => by
    rw [risingR, Bool.and_eq_true, Bool.and_eq_true] at h
    have h2 : strLt q y = true := h.1.2
    rcases List.mem_cons.1 hx with e | e
    · rw [e]; exact h2
    · exact bLess_trans _ _ _ h2 (rising_gt h.2 x e)
theorem ix_rising : ∀ {r : List ByteArray} {p : Option ByteArray} {i : Nat} {x : ByteArray}, risingR r p = true → r[i]? = some x → ix r x = some i
  | [], p, i, x, _, h => by simp at h
  | y :: r, p, 0, x, _, h => by
    have e : y = x := by simpa using h
    rw [e, ix, show strEq x x = true from by unfold strEq; simp, cond_true]
  | y :: r, p, i + 1, x, hr, h => by
    rw [risingR, Bool.and_eq_true, Bool.and_eq_true] at hr
    have h' : r[i]? = some x := by simpa using h
    have hlt := rising_gt hr.2 x (List.mem_of_getElem? h')
    have hne : strEq y x = false := by
      cases he : strEq y x with
      | false => rfl
      | true =>
        unfold strEq at he
        unfold strLt at hlt
        rw [eq_of_beq he, bLess_irr] at hlt; cases hlt
    rw [ix, hne, cond_false, ix_rising hr.2 h']; rfl
theorem field_at {a t : Ty} {i : Nat} (hr : risingR a.labels none = true) (h8 : a.k = 8) (hi : i < a.labels.length) (ht : a.args[i]? = some t) : fieldT a (a.labels.getD i ByteArray.empty) = some t := by
  unfold fieldT
  rw [h8, eqd_self, cond_true, ix_rising hr (show a.labels[i]? = some (a.labels.getD i ByteArray.empty) from by rw [List.getD_eq_getElem?_getD, List.getElem?_eq_getElem hi]; rfl)]
  exact ht
theorem fieldT_mem {t u : Ty} {x : ByteArray} (h : fieldT t x = some u) : u ∈ t.args ∧ t.k = 8 := by
  unfold fieldT at h
  cases hk : eqd t.k 8 with
  | false => rw [hk] at h; cases h
  | true =>
    rw [hk, cond_true, Option.bind_eq_some_iff] at h
    obtain ⟨i, _, h⟩ := h
    exact ⟨List.mem_of_getElem? h, eqd_iff.1 hk⟩
section
variable {l : List Seal}
theorem isV_field {v y : Val} {a t : Ty} {x : ByteArray} (ha : a.k = 8) (hi : isV l v a = true) (hy : fieldV v x = some y) (ht : fieldT a x = some t) : isV l y t = true := by
  rw [isV_rec ha] at hi
  simp only [Bool.and_eq_true] at hi
  obtain ⟨k4, k5, k6, k7⟩ := hi
  unfold fieldV at hy
  unfold fieldT at ht
  rw [k4, cond_true, Option.bind_eq_some_iff] at hy
  rw [ha, eqd_self, cond_true, Option.bind_eq_some_iff] at ht
  obtain ⟨i, e1, e2⟩ := hy
  obtain ⟨j, f1, f2⟩ := ht
  rw [← eqd_iff.1 k5, e1] at f1
  rw [← Option.some.inj f1] at f2
  exact isV2_get k7 e2 f2
theorem isV_fieldD {v y : Val} {x : ByteArray} (hi : isV l v dynT = true) (hy : fieldV v x = some y) : isV l y dynT = true := by
  have hm := fieldV_mem hy
  rw [isV_loose dynT_loose, hm.2, eqdN (show (4 : Int) ≠ 8 by decide), cond_false, eqd_self, cond_true, Bool.and_eq_true] at hi
  exact isV3_iff.1 hi.1 y hm.1
theorem isV_seal_kid {v : Val} (hi : isV l v dynT = true) (hk : v.k = 8) : (findT l v.n).2 = true ∧ ∃ x, v.kids = [x] ∧ isV l x (findT l v.n).1.rep = true := by
  rw [isV_loose dynT_loose, hk, eqd_self, cond_true, Bool.and_eq_true] at hi
  exact ⟨hi.1, isV1_iff hi.2⟩
theorem isV_recOf {ls : List ByteArray} {ks : List Val} {b : Ty} (hb : b.k = 8) (hl : ls = b.labels) (hn : ks.length = b.args.length) (h : ∀ (i : Nat) (x : Val) (t : Ty), ks[i]? = some x → b.args[i]? = some t → isV l x t = true) : isV l (recV ls ks) b = true := by
  rw [isV_rec hb]
  simp only [Bool.and_eq_true]
  exact ⟨eqd_iff.2 rfl, eqd_iff.2 hl, eqd_iff.2 (by show (ks.length : Int) = _; rw [hn]), isV2_all h⟩
theorem isV_recD {ls : List ByteArray} {ks : List Val} (h : ∀ x ∈ ks, isV l x dynT = true) : isV l (recV ls ks) dynT = true := by
  rw [isV_loose dynT_loose, show (recV ls ks).k = 4 from rfl, eqdN (show (4 : Int) ≠ 8 by decide), cond_false, eqd_self, cond_true, show (recV ls ks).kids = ks from rfl, isV3_iff.2 h]
  simp [eqd_self]
theorem isV_fnOf {w : Val} {t : Ty} (ht : t.k = 7 ∨ t.loose = true) (hw : w.fn = true) : isV l w t = true := by
  rcases ht with h | h
  · rw [isV_fun h]; exact hw
  · rw [isV_loose h]
    rcases fn_k hw with e | e | e <;> rw [e, hw] <;> simp [eqdN (show (5 : Int) ≠ 8 by decide), eqdN (show (5 : Int) ≠ 4 by decide), eqdN (show (6 : Int) ≠ 8 by decide), eqdN (show (6 : Int) ≠ 4 by decide), eqdN (show (7 : Int) ≠ 8 by decide), eqdN (show (7 : Int) ≠ 4 by decide)]
theorem isV_baseD {v : Val} {t : Ty} (hb : Base t v) : isV l v dynT = true := isV_known v t (isV_base hb)

/-- Whom a cast blames. -/
def Mark (l : List Seal) (s : ByteArray) (n : Int) (s' : ByteArray) (n' : Int) : Prop := (s' = s ∧ n' = n) ∨ ∃ x ∈ l, x.df = s' ∧ x.nd = n'
def Keeps (l : List Seal) (b : Ty) (s : ByteArray) (n : Int) : Got → Prop
  | .ok w => isV l w b = true
  | .bl s' n' => Mark l s n s' n'
theorem wrap_keeps {v : Val} {a a' b : Ty} {s : ByteArray} {n : Int} (hb : b.k = 7 ∨ b.loose = true) : Keeps l b s n (wrapV v a a' s n) := by
  cases h : wrapV v a a' s n with
  | bl s' n' => exact .inl (wrapV_bl h)
  | ok w =>
    obtain ⟨h1, h2⟩ := wrapV_ok h
    rcases h2 with ⟨_, e⟩ | ⟨_, e⟩
    · rw [e]; exact isV_fnOf hb h1
    · rw [e]; exact isV_fnOf hb (by unfold Val.fn; simp [eqd_self])
theorem fields_keeps {f : Nat → Val → Got} {v : Val} {ls : List ByteArray} {b : Ty} {s : ByteArray} {n : Int} {ts : Nat → Option Ty}
    (hok : ∀ ks : List Val, ks.length = ls.length → (∀ (i : Nat) (x : Val), ks[i]? = some x → ∃ t, ts i = some t ∧ isV l x t = true) → isV l (recV ls ks) b = true)
    (hf : ∀ (i : Nat) (y : Val) (t : Ty), fieldV v (ls.getD i ByteArray.empty) = some y → i < ls.length → ts i = some t → Keeps l t s n (f i y))
    (hn : ∀ (i : Nat) (y : Val), ts i = none → f i y = .bl s n) : Keeps l b s n (fieldsF f v ls s n) := by
  cases h : fieldsF f v ls s n with
  | bl s' n' =>
    rcases fieldsF_bl h with e | ⟨j, y, h1, h2, h3⟩
    · exact .inl e
    · cases ht : ts j with
      | none => rw [hn j y ht] at h3; cases h3; exact .inl ⟨rfl, rfl⟩
      | some t =>
        have := hf j y t h1 h2 ht
        rw [h3] at this; exact this
  | ok w =>
    obtain ⟨hk, ks, h1, h2, h3⟩ := fieldsF_ok h
    rw [h1]
    refine hok ks h2 fun i x hx => ?_
    obtain ⟨z, y, e1, e2, e3⟩ := h3 i x hx
    have hi : i < ls.length := by have := (List.getElem?_eq_some_iff.1 hx).1; omega
    cases ht : ts i with
    | none => rw [hn i y ht] at e3; cases e3
    | some t =>
      have := hf i y t (by rw [List.getD_eq_getElem?_getD, e1]; exact e2) hi ht
      rw [e3] at this; exact ⟨t, rfl, this⟩

/-- What a cast gives is of its other type, and whom it blames is its own label or a seal's. -/
theorem castF_keeps (hl : ∀ s ∈ l, s.rep.right = true ∧ s.bound.right = true) : ∀ (k : Nat) (v : Val) (a b : Ty) (s : ByteArray) (n : Int), isV l v a = true → a.right = true → b.right = true → Keeps l b s n (castF l k v a b s n)
  | 0, v, a, b, s, n, _, _, _ => .inl ⟨rfl, rfl⟩
  | k + 1, v, a, b, s, n, hv, ra, rb => by
    have ih := castF_keeps hl k
    have hd : isV l v dynT = true := isV_known v a hv
    have hdr : dynT.right = true := dynT_fit.right
    have hrev : ∀ b : Ty, b.right = true → v.k = 8 → Keeps l b s n (revealF (castF l k) l v b s n) := by
      intro b rb hk
      obtain ⟨h1, x, h2, h3⟩ := isV_seal_kid hd hk
      unfold revealF
      cases hid l v with
      | true => exact .inl ⟨rfl, rfl⟩
      | false =>
        have hm := findT_mem h1
        rw [cond_false, h2, show ([x] : List Val).headD zeroV = x from rfl]
        have h4 := ih x (findT l v.n).1.rep (findT l v.n).1.bound (findT l v.n).1.df (findT l v.n).1.nd h3 (hl _ hm).1 (hl _ hm).2
        cases hc : castF l k x (findT l v.n).1.rep (findT l v.n).1.bound (findT l v.n).1.df (findT l v.n).1.nd with
        | bl s' n' =>
          rw [hc] at h4
          rcases h4 with ⟨e1, e2⟩ | e
          · exact .inr ⟨_, hm, e1.symm, e2.symm⟩
          · exact .inr e
        | ok z =>
          rw [hc] at h4
          exact ih z _ b s n h4 (hl _ hm).2 rb
    show Keeps l b s n (stepF (castF l k) l v a b s n)
    refine stepF_cases (castF l k) l v a b s n ?_ ?_ ?_ ?_ ?_ ?_ ?_ ?_ ?_ ?_ ?_ ?_ ?_ ?_ ?_
    · intro e; rw [← e]; exact hv
    · intro _ h; show isV l v b = true; rw [isV_dyn h]; exact hd
    · intro _ _ h _; exact hrev b rb h
    · intro _; exact .inl ⟨rfl, rfl⟩
    · intro _ h; show isV l v b = true; rw [isV_dyn h]; exact hd
    · intro _ h8 h9 hn
      obtain ⟨h1, x, h2, h3⟩ := isV_seal_kid hd h8
      show isV l v b = true
      rw [isV_seal h9, h8, hn, h1, h2, isV1_one, h3, eqd_self, eqd_self]; rfl
    · intro _ _ h; exact hrev b rb h
    · intro _ h; exact isV_base h
    · intro _ _ h; exact wrap_keeps (.inl h)
    · intro ha _ h8
      have hr := right_rec rb h8
      refine fields_keeps (ts := fun i => b.args[i]?) (fun ks h1 h2 => isV_recOf h8 rfl (by rw [h1, hr.2]) fun i x t hx ht => by obtain ⟨t', e1, e2⟩ := h2 i x hx; rw [show b.args[i]? = some t' from e1] at ht; rw [← Option.some.inj ht]; exact e2) (fun i y t h1 _ ht => ?_) (fun i y ht => ?_)
      · show Keeps l t s n (match b.args[i]? with | some t => _ | none => _)
        rw [show b.args[i]? = some t from ht]
        exact ih y dynT t s n (isV_fieldD hd h1) hdr (right_arg rb (List.mem_of_getElem? ht))
      · show (match b.args[i]? with | some t => _ | none => _) = _
        rw [show b.args[i]? = none from ht]
    · intro h hb; show isV l v b = true; rw [isV_dyn h]; exact isV_baseD hb
    · intro h _; exact wrap_keeps (.inr h)
    · intro hb h8
      have hr := right_rec ra h8
      refine fields_keeps (ts := fun i => (a.args[i]?).map fun _ => dynT) (fun ks h1 h2 => ?_) (fun i y t h1 hi ht => ?_) (fun i y ht => ?_)
      · rw [isV_dyn hb]
        refine isV_recD fun x hx => ?_
        obtain ⟨i, hi⟩ := List.mem_iff_getElem?.1 hx
        have hi' : i < a.args.length := by have := (List.getElem?_eq_some_iff.1 hi).1; omega
        obtain ⟨t, e1, e2⟩ := h2 i x hi
        simp only [List.getElem?_eq_getElem hi', Option.map_some, Option.some.injEq] at e1
        rw [e1]; exact e2
      · show Keeps l t s n (match a.args[i]? with | some t => _ | none => _)
        have hi' : i < a.args.length := by omega
        have hg := List.getElem?_eq_getElem hi'
        simp only [hg, Option.map_some, Option.some.injEq] at ht ⊢
        rw [← ht]
        refine ih y _ dynT s n (isV_field h8 hv h1 ?_) (right_arg ra (List.getElem_mem hi')) hdr
        exact field_at hr.1 h8 hi hg
      · show (match a.args[i]? with | some t => _ | none => _) = _
        rw [show a.args[i]? = none from by simpa using ht]
    · intro _ _ h; exact wrap_keeps (.inl h)
    · intro _ ha h8
      have hr := right_rec rb h8
      refine fields_keeps (ts := fun i => (fieldT a (b.labels.getD i ByteArray.empty)).bind fun _ => b.args[i]?) (fun ks h1 h2 => ?_) (fun i y t h1 hi ht => ?_) (fun i y ht => ?_)
      · refine isV_recOf h8 rfl (by rw [h1, hr.2]) fun i x t hx ht => ?_
        obtain ⟨t', e1, e2⟩ := h2 i x hx
        rw [Option.bind_eq_some_iff] at e1
        obtain ⟨_, _, e1⟩ := e1
        rw [ht] at e1
        rw [Option.some.inj e1]; exact e2
      · show Keeps l t s n (match fieldT a (b.labels.getD i ByteArray.empty) with | none => _ | some t => match b.args[i]? with | some u => _ | none => _)
        rw [Option.bind_eq_some_iff] at ht
        obtain ⟨u, e1, e2⟩ := ht
        rw [e1, e2]
        exact ih y u t s n (isV_field ha hv h1 e1) (right_arg ra (fieldT_mem e1).1) (right_arg rb (List.mem_of_getElem? e2))
      · show (match fieldT a (b.labels.getD i ByteArray.empty) with | none => _ | some t => match b.args[i]? with | some u => _ | none => _) = _
        cases e1 : fieldT a (b.labels.getD i ByteArray.empty) with
        | none => rfl
        | some u =>
          rw [e1] at ht
          rw [show b.args[i]? = none from ht]
end
end Go.Sh.T

/- The law CastKeeps. -/
namespace Go.Sh.T
open Go Go.Sh
set_option linter.unusedSimpArgs false
set_option linter.unusedVariables false
set_option maxRecDepth 100000

theorem right28_of {l : List Seal} (h : right28 l = true) : ∀ s ∈ l, s.rep.right = true ∧ s.bound.right = true := by
  unfold right28 at h
  rw [Bool.and_eq_true] at h
  have key : ∀ (l : List Seal) (i : Nat), rightSL i l = true → ∀ s ∈ l, s.rep.right = true ∧ s.bound.right = true := by
    intro l
    induction l with
    | nil => intro i _ s hs; cases hs
    | cons x r ih =>
      intro i h s hs
      rw [rightSL, Bool.and_eq_true, Seal.right] at h
      simp only [Bool.and_eq_true] at h
      rcases List.mem_cons.1 hs with e | e
      · rw [e]; exact ⟨h.1.1, h.1.2.2.2.1⟩
      · exact ih (i + 1) h.2 s e
  exact key l 0 h.1
theorem right28_fit {l : List Seal} (ol : ∀ s ∈ l, s.Ok) (vl : ∀ s ∈ l, s.rep.vol ≤ 1048576 ∧ s.bound.vol ≤ 1048576) (h : right28 l = true) : SealsFit l := fun s hs =>
  ⟨ol s hs, ⟨(ol s hs).rep, (right28_of h s hs).1, (vl s hs).1⟩, ⟨(ol s hs).bound, (right28_of h s hs).2, (vl s hs).2⟩⟩
noncomputable def markB (s' : ByteArray) (n' : Int) (l : List Seal) : Bool := l.any fun x => eqd s' x.df && eqd n' x.nd
end Go.Sh.T
