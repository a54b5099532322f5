/- ExE: part of the proof: a shadow of the machine that is proved sound, and what the functions of this seat compute. Conditions: none. -/
import Derived.Test.YthpnngodkjjmoaaExC
import Derived.Test.YthpnngodkjjmoaaExU
import Derived.Sort.Walk0
import Derived.Test.YthpnngodkjjmoaaShB
import Derived.Test.YthpnngodkjjmoaaRows
set_option linter.unusedSimpArgs false
/- The document's Right is the program's. -/
namespace Go.Sh.T
open Go Go.Sh
set_option linter.unusedSimpArgs false
set_option linter.unusedVariables false
set_option maxRecDepth 100000
theorem types83 (l : List Ty) (hl : l.length ≤ maxLen) (ol : ∀ a ∈ l, a.Ok) (h : Heap) : evw E 83 [.sl 5 (l.map Ty.cells)] h = some (.ret (.lit (.bool (l.all fineB))), h) := by
  have hl : l.length ≤ 9223372036854775807 := hl
  have loop : ∀ (q i : Nat), i ≤ l.length → l.length < q + i → Lp83_0 (evw E) (l.length + 1) h q h (.sl 5 (l.map Ty.cells)) (.lit (.int .i64 (i : Int))) = some (.ret (.lit (.bool ((l.drop i).all fineB))), h) := by
    intro q
    induction q with
    | zero => intro i h1 h2; omega
    | succ q ih =>
      intro i h1 h2
      rw [Lp83_0_succ, lenA22, bind_some', List.length_map, bin_int, lssI, bind_some', boolB, bind_some']
      by_cases hi : i < l.length
      · have oi := ol _ (List.getElem_mem hi)
        simp only [ltT hi, condT, indexA_map _ _ _ _ hi, bind_some', partA_full (Ty.cells_len _), right_spec _ _ oi, has_spec _ _ _ oi, onOut_ret, notB, boolB, bin_int, addI]
        rw [List.drop_eq_getElem_cons hi, List.all_cons, incI (by omega), ih (i + 1) hi (by omega)]
        unfold fineB
        cases (l[i]).right <;> cases (l[i]).has 9 <;> rfl
      · rw [ltF hi, condF, List.drop_of_length_le (by omega)]; rfl
  refine evw_run primsC (l.length + 1) rfl rfl rfl ?_
  rw [nf83]
  have := loop (l.length + 1) 0 (Nat.zero_le _) (by omega)
  rw [List.drop_zero] at this
  exact this
def shp (k : Int) (b : Bool) (m : Int) : Int × Int × Int × Int :=
  bif k == 5 then (0, 1, 2, 2) else bif k == 6 then (0, 0, 3, 3) else bif k == 7 then (0, 1, 1, 1) else bif k == 8 || k == 11 then (0, 0, 2, 2) else bif k == 9 then (0, 0, m, m) else bif k == 10 then (0, 0, 1, 1) else bif k == 12 then (1, 1, 1, 1) else bif k == 13 then (bif b then (1, 3, 0, 4) else (0, 0, 0, 4)) else (0, 0, 0, 0)
theorem shape82 (e : Exp) (h : Heap) : evw E 82 [.agg e.cells] h = some (.ret (.tup [.lit (.int .i64 (shp e.k e.has e.labels.length).1), .lit (.int .i64 (shp e.k e.has e.labels.length).2.1), .lit (.int .i64 (shp e.k e.has e.labels.length).2.2.1), .lit (.int .i64 (shp e.k e.has e.labels.length).2.2.2)]), h) := by
  obtain ⟨k, n, s, b, ts, ls, xs⟩ := e
  refine evw_run primsC 0 rfl rfl rfl ?_
  rw [nf82, aggS, bind_some', Exp.cells_len, b7, condT, Exp.c0, Exp.c3, Exp.c5]
  simp only [bin_int, eqlI, bind_some', boolB, lenA23, List.length_map]
  unfold shp
  generalize hm : (ls.length : Int) = m
  rcases k13 k with e | e | e | e | e | e | e | e | e | e | e | e | e | ⟨e1, e2, e3, e4, e5, e6, e7, e8, e9, e10, e11, e12, e13⟩
  all_goals first | (subst e; first | rfl | (cases b <;> rfl)) | (simp only [e1, e2, e3, e4, e5, e6, e7, e8, e9, e10, e11, e12, e13]; rfl)
def r5 (e : Exp) : Bool := decide ((e.types.length : Int) ≥ (shp e.k e.has e.labels.length).1) && (decide ((e.types.length : Int) ≤ (shp e.k e.has e.labels.length).2.1) && (decide ((e.kids.length : Int) ≥ (shp e.k e.has e.labels.length).2.2.1) && (decide ((e.kids.length : Int) ≤ (shp e.k e.has e.labels.length).2.2.2) && e.types.all fineB)))
def r4 (e : Exp) : Bool := !(e.k != 9 && decide ((e.labels.length : Int) > 0)) && (risingR e.labels none && (!decide ((e.labels.length : Int) > 6) && r5 e))
def r3 (e : Exp) : Bool := !((e.k != 1 && e.k != 2 && e.k != 11 && e.n != 0) || (e.k != 13 && e.has)) && r4 e
def r2 (e : Exp) : Bool := !((e.k == 1 && decide (e.n < 0)) || (e.k == 2 && (e.n != 0 && e.n != 1)) || (e.k == 11 && (decide (e.n < 1) || decide (e.n > 7)))) && r3 e
def r1 (e : Exp) (nm : Bool) : Bool := !((nm && !(kindR e.name == 1)) || (!nm && (e.k != 3 && !emptyS e.name)) || (e.k == 3 && decide ((e.name.size : Int) > 40))) && r2 e
def r0 (e : Exp) : Bool := r1 e (e.k == 4 || e.k == 5 || e.k == 7 || e.k == 10 || e.k == 13)
section
variable (e : Exp) (ok : e.Ok) (h : Heap)
theorem tt0 (a b c d : AV) : [a, b, c, d][0]? = some a := rfl
theorem tt1 (a b c d : AV) : [a, b, c, d][1]? = some b := rfl
theorem tt2 (a b c d : AV) : [a, b, c, d][2]? = some c := rfl
theorem tt3 (a b c d : AV) : [a, b, c, d][3]? = some d := rfl
abbrev Sx (S : AV → AV → AV → AV → AV → AV → AV → AV → R) (e : Exp) (b : Bool) : R := S (.lit (.int .i64 e.k)) (.lit (.int .i64 e.n)) (.lit (.string e.name)) (.lit (.bool e.has)) (.sl 5 (e.types.map Ty.cells)) (.sl 1 (e.labels.map strC)) (.sl 7 (e.kids.map Exp.cells)) (.lit (.bool b))
include ok in
theorem sq5 (b : Bool) : Sx (Sq46_5 (evw E) 1 h h) e b = some (.ret (.lit (.bool (!b && r5 e))), h) := by
  unfold Sx
  rw [Sq46_5_eq, gate_succ, boolB, bind_some', Exp.refold]
  cases b with
  | true => rfl
  | false =>
    simp only [condF, shape82, onOut_ret, tupS, bind_some', tt0, tt1, tt2, tt3, lenA22, lenA24, List.length_map, bin_int, geqI, leqI, boolB, types83 _ ok.tlen (fun a ha => ok.ty ha), Sq46_6_eq, gate_succ, Bool.not_false, Bool.true_and]
    unfold r5
    cases decide ((e.types.length : Int) ≥ (shp e.k e.has e.labels.length).1) <;> cases decide ((e.types.length : Int) ≤ (shp e.k e.has e.labels.length).2.1) <;> cases decide ((e.kids.length : Int) ≥ (shp e.k e.has e.labels.length).2.2.1) <;> cases decide ((e.kids.length : Int) ≤ (shp e.k e.has e.labels.length).2.2.2) <;> rfl
include ok in
theorem sq4 (b : Bool) : Sx (Sq46_4 (evw E) 1 h h) e b = some (.ret (.lit (.bool (!b && r4 e))), h) := by
  unfold Sx
  rw [Sq46_4_eq, gate_succ, boolB, bind_some']
  cases b with
  | true => rfl
  | false =>
    have s5 := sq5 e ok h
    unfold Sx at s5
    simp only [condF, bin_int, neqI, bind_some', boolB, lenA23, List.length_map, gtrI, rising_spec _ ok.lab, onOut_ret, notB, s5, Bool.not_false, Bool.true_and]
    unfold r4
    cases e.k != 9 <;> cases decide ((e.labels.length : Int) > 0) <;> cases risingR e.labels none <;> cases decide ((e.labels.length : Int) > 6) <;> rfl
include ok in
theorem sq3 (b : Bool) : Sx (Sq46_3 (evw E) 1 h h) e b = some (.ret (.lit (.bool (!b && r3 e))), h) := by
  unfold Sx
  rw [Sq46_3_eq, gate_succ, boolB, bind_some']
  cases b with
  | true => rfl
  | false =>
    have s5 := sq4 e ok h
    unfold Sx at s5
    simp only [condF, bin_int, neqI, bind_some', boolB, s5, Bool.not_false, Bool.true_and]
    unfold r3
    cases e.k != 1 <;> cases e.k != 2 <;> cases e.k != 11 <;> cases e.n != 0 <;> cases e.k != 13 <;> cases e.has <;> rfl
include ok in
theorem sq2 (b : Bool) : Sx (Sq46_2 (evw E) 1 h h) e b = some (.ret (.lit (.bool (!b && r2 e))), h) := by
  unfold Sx
  rw [Sq46_2_eq, gate_succ, boolB, bind_some']
  cases b with
  | true => rfl
  | false =>
    have s5 := sq3 e ok h
    unfold Sx at s5
    simp only [condF, bin_int, neqI, eqlI, lssI, gtrI, bind_some', boolB, s5, Bool.not_false, Bool.true_and]
    unfold r2
    cases e.k == 1 <;> cases e.k == 2 <;> cases e.k == 11 <;> cases e.n != 0 <;> cases e.n != 1 <;> cases decide (e.n < 0) <;> cases decide (e.n < 1) <;> cases decide (e.n > 7) <;> rfl
include ok in
theorem sq1 (b : Bool) : Sx (Sq46_1 (evw E) 1 h h) e b = some (.ret (.lit (.bool (r1 e b))), h) := by
  unfold Sx
  rw [Sq46_1_eq, gate_succ, boolB, bind_some']
  have s5 := sq2 e ok h
  unfold Sx at s5
  have hE : ∀ s : ByteArray, binAV E .neq 9 (.lit (.string s)) (.lit (.string ByteArray.empty)) = some (.lit (.bool (!emptyS s))) := fun s => (Eq.refl _).trans rfl
  simp only [bin_int, neqI, eqlI, lssI, gtrI, bind_some', boolB, notB, fine_spec, onOut_ret, lenS, hE, s5]
  unfold r1
  cases b <;> cases kindR e.name == 1 <;> cases e.k == 3 <;> cases e.k != 3 <;> cases emptyS e.name <;> cases decide ((e.name.size : Int) > 40) <;> rfl
include ok in
theorem sq0 (b : Bool) : Sx (Sq46_0 (evw E) 1 h h) e b = some (.ret (.lit (.bool (!b && r0 e))), h) := by
  unfold Sx
  rw [Sq46_0_eq, gate_succ, boolB, bind_some']
  cases b with
  | true => rfl
  | false =>
    have s5 := sq1 e ok h
    unfold Sx at s5
    simp only [condF, bin_int, neqI, eqlI, lssI, gtrI, bind_some', boolB, s5, Bool.not_false, Bool.true_and]
    unfold r0
    cases e.k == 4 <;> cases e.k == 5 <;> cases e.k == 7 <;> cases e.k == 10 <;> cases e.k == 13 <;> rfl
include ok in
theorem own46' : evw E 46 [.agg e.cells] h = some (.ret (.lit (.bool (!(decide (e.k < 1) || decide (e.k > 13)) && r0 e))), h) := by
  refine evw_run primsC 1 rfl rfl rfl ?_
  have s5 := sq0 e ok h
  unfold Sx at s5
  rw [nf46, aggS, bind_some', Exp.cells_len, b7, condT, Exp.c0, Exp.c1, Exp.c2, Exp.c3, Exp.c4, Exp.c5, Exp.c6]
  simp only [bin_int, lssI, gtrI, bind_some', boolB, s5]
  cases decide (e.k < 1) <;> cases decide (e.k > 13) <;> rfl
end
end Go.Sh.T

/- Right, Count, At, Nodes, Depth: the document's and the program's. -/
namespace Go.Sh.T
open Go Go.Sh
set_option linter.unusedSimpArgs false
set_option linter.unusedVariables false
set_option maxRecDepth 100000
theorem own_eq (e : Exp) : (!(decide (e.k < 1) || decide (e.k > 13)) && r0 e) = ownB e := by
  obtain ⟨k, n, s, b, ts, ls, xs⟩ := e
  have hR0 : (ls.length : Int) = 0 → risingR ls none = true := fun h => by
    have : ls = [] := List.length_eq_zero_iff.1 (by omega)
    rw [this, risingR]
  unfold r0 r1 r2 r3 r4 r5 ownB wordB numB typB bearB shp
  simp only
  have hT : (0 : Int) ≤ (ts.length : Int) := by omega
  have hK : (0 : Int) ≤ (xs.length : Int) := by omega
  have hL : (0 : Int) ≤ (ls.length : Int) := by omega
  have hS : (0 : Int) ≤ (s.size : Int) := by omega
  revert hR0 hT hK hL hS
  generalize (ts.length : Int) = T
  generalize (xs.length : Int) = K
  generalize (ls.length : Int) = L
  generalize (s.size : Int) = Z
  generalize (kindR s == 1) = F
  generalize emptyS s = Em
  generalize risingR ls none = Rr
  generalize ts.all fineB = Aa
  intro hR0 hT hK hL hS
  rw [Bool.eq_iff_iff]
  rcases k13 k with e | e | e | e | e | e | e | e | e | e | e | e | e | ⟨e1, e2, e3, e4, e5, e6, e7, e8, e9, e10, e11, e12, e13⟩
  iterate 13
    · subst e
      simp only [Int.reduceBEq, Int.reduceBNe, Int.reduceLT, Int.reduceGT, decide_true, decide_false, Bool.true_and, Bool.and_true, Bool.false_and, Bool.and_false, Bool.true_or, Bool.or_true, Bool.false_or, Bool.or_false, Bool.not_true, Bool.not_false, cond_true, cond_false, Bool.and_eq_true, Bool.or_eq_true, Bool.not_eq_true', Bool.and_eq_false_iff, Bool.or_eq_false_iff, decide_eq_true_eq, decide_eq_false_iff_not, beq_iff_eq, bne_iff_ne, beq_eq_false_iff_ne, bne_eq_false_iff_eq, ne_eq, Bool.not_eq_false']
      cases F <;> cases Em <;> cases Rr <;> cases Aa <;> cases b <;> simp at hR0 ⊢ <;> omega
  · have hne : ∀ c : Int, (k == c) = false → (k != c) = true := fun c h => by unfold bne; rw [h]; rfl
    have hk : ¬ (1 ≤ k ∧ k ≤ 13) := by
      simp only [beq_eq_false_iff_ne, ne_eq] at e1 e2 e3 e4 e5 e6 e7 e8 e9 e10 e11 e12 e13
      omega
    simp only [e1, e2, e3, e4, e5, e6, e7, e8, e9, e10, e11, e12, e13]
    have : (decide (k < 1) || decide (k > 13)) = true := by
      rw [Bool.or_eq_true, decide_eq_true_eq, decide_eq_true_eq]; omega
    rw [this]
    simp
theorem own46 (e : Exp) (ok : e.Ok) (h : Heap) : evw E 46 [.agg e.cells] h = some (.ret (.lit (.bool (ownB e))), h) := by rw [own46' e ok h, own_eq]
theorem right15 : ∀ (e : Exp) (h : Heap), e.Ok → evw E 15 [.agg e.cells] h = some (.ret (.lit (.bool e.right)), h)
  | e, h, ok => by
    have hlen : e.kids.length ≤ 9223372036854775807 := ok.len
    have loop : ∀ (x0 x1 x2 x3 x4 x5 : AV) (q i : Nat), i ≤ e.kids.length → e.kids.length < q + i → Lp15_0 (evw E) (e.kids.length + 1) h q h x0 x1 x2 x3 x4 x5 (.sl 7 (e.kids.map Exp.cells)) (.lit (.int .i64 (i : Int))) = some (.ret (.lit (.bool ((e.kids.drop i).all Exp.right))), h) := by
      intro x0 x1 x2 x3 x4 x5 q
      induction q with
      | zero => intro i h1 h2; omega
      | succ q ih =>
        intro i h1 h2
        rw [Lp15_0_succ, lenA24, bind_some', List.length_map, bin_int, lssI, bind_some', boolB, bind_some']
        by_cases hi : i < e.kids.length
        · have hrec := right15 (e.kids[i]) h (ok.kid (List.getElem_mem hi))
          rw [ltT hi, condT, indexA_map _ _ _ _ hi, bind_some', partA_full (Exp.cells_len _), bind_some', hrec, onOut_ret, notB, bind_some', boolB, bind_some', List.drop_eq_getElem_cons hi, List.all_cons]
          cases (e.kids[i]).right with
          | false => rfl
          | true => rw [Bool.not_true, condF, bin_int, addI, bind_some', incI (by omega), ih (i + 1) hi (by omega)]; rfl
        · rw [ltF hi, condF, List.drop_of_length_le (by omega)]; rfl
    refine evw_run primsC (e.kids.length + 1) rfl rfl rfl ?_
    rw [nf15, aggS, bind_some', Exp.cells_len, b7, condT, Exp.re, own46 e ok, onOut_ret, notB, bind_some', boolB, bind_some', Exp.right_eq]
    cases ownB e with
    | false => rfl
    | true =>
      have := loop (.lit (.int .i64 e.k)) (.lit (.int .i64 e.n)) (.lit (.string e.name)) (.lit (.bool e.has)) (.sl 5 (e.types.map Ty.cells)) (.sl 1 (e.labels.map strC)) (e.kids.length + 1) 0 (Nat.zero_le _) (by omega)
      rw [List.drop_zero] at this
      rw [Bool.not_true, condF, Exp.c0, Exp.c1, Exp.c2, Exp.c3, Exp.c4, Exp.c5, Exp.c6]
      exact this
  termination_by e => SizeOf.sizeOf e
  decreasing_by exact Exp.size_kid hi

/- Count and Nodes by definition -/
theorem Exp.preL_take (l : List Exp) (i : Nat) (hi : i < l.length) : Exp.preL (l.drop i) = (l[i]).pre ++ Exp.preL (l.drop (i + 1)) := by rw [List.drop_eq_getElem_cons hi, Exp.preL_cons]
theorem Exp.kid_N {e : Exp} (i : Nat) (hi : i < e.kids.length) : expsN (e.kids[i]).pre ≤ expsN (Exp.preL e.kids) := by
  have key : ∀ (l : List Exp) (x : Exp), x ∈ l → expsN x.pre ≤ expsN (Exp.preL l) := by
    intro l
    induction l with
    | nil => intro x hx; cases hx
    | cons y r ih =>
      intro x hx
      rw [Exp.preL_cons, expsN_append]
      rcases List.mem_cons.1 hx with e | e
      · rw [e]; omega
      · have := ih x e; omega
  exact key _ _ (List.getElem_mem hi)
theorem count19 : ∀ (e : Exp) (h : Heap), e.Ok → expsN e.pre ≤ 1048576 → evw E 19 [.agg e.cells] h = some (.ret (.lit (.int .i64 (e.pre.length : Int))), h)
  | e, h, ok, hv => by
    have hlen : e.kids.length ≤ 9223372036854775807 := ok.len
    have hv' := hv
    rw [Exp.pre_eq, expsN] at hv'
    have hp := expsN_len (Exp.preL e.kids)
    have loop : ∀ (x0 x1 x2 x3 x4 x5 : AV) (q i : Nat) (acc : Nat), i ≤ e.kids.length → e.kids.length < q + i → acc + (Exp.preL (e.kids.drop i)).length ≤ 1048577 → Lp19_0 (evw E) (e.kids.length + 1) h q h x0 x1 x2 x3 x4 x5 (.sl 7 (e.kids.map Exp.cells)) (.lit (.int .i64 (acc : Int))) (.lit (.int .i64 (i : Int))) = some (.ret (.lit (.int .i64 ((acc + (Exp.preL (e.kids.drop i)).length : Nat) : Int))), h) := by
      intro x0 x1 x2 x3 x4 x5 q
      induction q with
      | zero => intro i acc h1 h2; omega
      | succ q ih =>
        intro i acc h1 h2 h3
        rw [Lp19_0_succ, lenA24, bind_some', List.length_map, bin_int, lssI, bind_some', boolB, bind_some']
        by_cases hi : i < e.kids.length
        · have hk := Exp.kid_N i hi
          have hrec := count19 (e.kids[i]) h (ok.kid (List.getElem_mem hi)) (by omega)
          rw [Exp.preL_take _ _ hi, List.length_append] at h3
          rw [ltT hi, condT, indexA_map _ _ _ _ hi, bind_some', partA_full (Exp.cells_len _), bind_some', hrec, onOut_ret, bin_int, addI, bind_some', bin_int, addI, bind_some', incI (by omega), show add64 (acc : Int) ((e.kids[i]).pre.length : Int) = ((acc + (e.kids[i]).pre.length : Nat) : Int) from by unfold add64; rw [IntWalk.i64_in _ (by omega)]; omega,
            ih (i + 1) _ hi (by omega) (by omega), Exp.preL_take _ _ hi, List.length_append, Nat.add_assoc]
        · rw [ltF hi, condF, List.drop_of_length_le (by omega), Exp.preL_nil]; rfl
    refine evw_run primsC (e.kids.length + 1) rfl rfl rfl ?_
    rw [nf19, aggS, bind_some', Exp.cells_len, b7, condT, Exp.c0, Exp.c1, Exp.c2, Exp.c3, Exp.c4, Exp.c5, Exp.c6]
    have := loop (.lit (.int .i64 e.k)) (.lit (.int .i64 e.n)) (.lit (.string e.name)) (.lit (.bool e.has)) (.sl 5 (e.types.map Ty.cells)) (.sl 1 (e.labels.map strC)) (e.kids.length + 1) 0 1 (Nat.zero_le _) (by omega) (by rw [List.drop_zero]; omega)
    rw [List.drop_zero] at this
    rw [Exp.pre_eq, List.length_cons, Nat.add_comm (Exp.preL e.kids).length 1]
    exact this
  termination_by e => SizeOf.sizeOf e
  decreasing_by exact Exp.size_kid hi
theorem nodes16 : ∀ (e : Exp) (h : Heap), e.Ok → expsN e.pre ≤ 1048576 → evw E 16 [.agg e.cells] h = some (.ret (.lit (.int .i64 (expsN e.pre : Int))), h)
  | e, h, ok, hv => by
    have hlen : e.kids.length ≤ 9223372036854775807 := ok.len
    have htl : e.types.length ≤ 9223372036854775807 := ok.tlen
    have hv' := hv
    rw [Exp.pre_eq, expsN] at hv'
    obtain ⟨N, hN⟩ : ∃ N, N = e.kids.length + e.types.length + 1 := ⟨_, rfl⟩
    have loop1 : ∀ (x0 x1 x2 x3 x4 x5 : AV) (q i : Nat) (acc : Nat), i ≤ e.kids.length → e.kids.length < q + i → acc + expsN (Exp.preL (e.kids.drop i)) ≤ 1048577 → Lp16_1 (evw E) N h q h x0 x1 x2 x3 x4 x5 (.sl 7 (e.kids.map Exp.cells)) (.lit (.int .i64 (acc : Int))) (.lit (.int .i64 (i : Int))) = some (.ret (.lit (.int .i64 ((acc + expsN (Exp.preL (e.kids.drop i)) : Nat) : Int))), h) := by
      intro x0 x1 x2 x3 x4 x5 q
      induction q with
      | zero => intro i acc h1 h2; omega
      | succ q ih =>
        intro i acc h1 h2 h3
        rw [Lp16_1_succ, lenA24, bind_some', List.length_map, bin_int, lssI, bind_some', boolB, bind_some']
        by_cases hi : i < e.kids.length
        · have hk := Exp.kid_N i hi
          have hrec := nodes16 (e.kids[i]) h (ok.kid (List.getElem_mem hi)) (by omega)
          rw [Exp.preL_take _ _ hi, expsN_append] at h3
          rw [ltT hi, condT, indexA_map _ _ _ _ hi, bind_some', partA_full (Exp.cells_len _), bind_some', hrec, onOut_ret, bin_int, addI, bind_some', bin_int, addI, bind_some', incI (by omega), show add64 (acc : Int) (expsN (e.kids[i]).pre : Int) = ((acc + expsN (e.kids[i]).pre : Nat) : Int) from by unfold add64; rw [IntWalk.i64_in _ (by omega)]; omega,
            ih (i + 1) _ hi (by omega) (by omega), Exp.preL_take _ _ hi, expsN_append, Nat.add_assoc]
        · rw [ltF hi, condF, List.drop_of_length_le (by omega), Exp.preL_nil]; rfl
    have loop0 : ∀ (x0 x1 x2 x3 x5 : AV) (q i : Nat) (acc : Nat), i ≤ e.types.length → e.types.length < q + i → acc + tysN (e.types.drop i) + expsN (Exp.preL e.kids) ≤ 1048577 → Lp16_0 (evw E) N h q h x0 x1 x2 x3 (.sl 5 (e.types.map Ty.cells)) x5 (.sl 7 (e.kids.map Exp.cells)) (.lit (.int .i64 (acc : Int))) (.lit (.int .i64 (i : Int))) = some (.ret (.lit (.int .i64 ((acc + tysN (e.types.drop i) + expsN (Exp.preL e.kids) : Nat) : Int))), h) := by
      intro x0 x1 x2 x3 x5 q
      have fin := fun acc hh => loop1 x0 x1 x2 x3 (.sl 5 (e.types.map Ty.cells)) x5 N 0 acc (Nat.zero_le _) (by omega) hh
      rw [List.drop_zero] at fin
      induction q with
      | zero => intro i acc h1 h2; omega
      | succ q ih =>
        intro i acc h1 h2 h3
        rw [Lp16_0_succ, lenA22, bind_some', List.length_map, bin_int, lssI, bind_some', boolB, bind_some']
        by_cases hi : i < e.types.length
        · rw [List.drop_eq_getElem_cons hi, tysN] at h3
          rw [ltT hi, condT, indexA_map _ _ _ _ hi, bind_some', partA_full (Ty.cells_len _), bind_some', nodes_spec _ _ (ok.ty (List.getElem_mem hi)), onOut_ret, Ty.nodes_pre _ (by omega), bin_int, addI, bind_some', bin_int, addI, bind_some', incI (by omega), show add64 (acc : Int) ((e.types[i]).pre.length : Int) = ((acc + (e.types[i]).pre.length : Nat) : Int) from by unfold add64; rw [IntWalk.i64_in _ (by omega)]; omega,
            ih (i + 1) _ hi (by omega) (by omega), List.drop_eq_getElem_cons hi, tysN, Nat.add_assoc acc]
        · rw [List.drop_of_length_le (show e.types.length ≤ i by omega), tysN] at h3 ⊢
          rw [ltF hi, condF]
          exact fin acc (by omega)
    refine evw_run primsC N rfl rfl rfl ?_
    rw [nf16, aggS, bind_some', Exp.cells_len, b7, condT, Exp.c0, Exp.c1, Exp.c2, Exp.c3, Exp.c4, Exp.c5, Exp.c6]
    have := loop0 (.lit (.int .i64 e.k)) (.lit (.int .i64 e.n)) (.lit (.string e.name)) (.lit (.bool e.has)) (.sl 1 (e.labels.map strC)) N 0 1 (Nat.zero_le _) (by omega) (by rw [List.drop_zero]; omega)
    rw [List.drop_zero] at this
    rw [Exp.pre_eq, expsN]
    exact this
  termination_by e => SizeOf.sizeOf e
  decreasing_by exact Exp.size_kid hi
end Go.Sh.T

/- Depth and At: the document's and the program's. -/
namespace Go.Sh.T
open Go Go.Sh
set_option linter.unusedSimpArgs false
set_option linter.unusedVariables false
set_option maxRecDepth 100000
def mx (x y : Int) : Int := if y > x then y else x
theorem maxs1 (x y : Int) : maxs (.lit (.int .i64 x)) [.lit (.int .i64 y)] = some (.lit (.int .i64 (mx x y))) := (Eq.refl _).trans rfl
mutual
def Ty.deep : Ty → Int
  | ⟨_, _, _, _, xs⟩ => add64 (Ty.deepL 0 xs) 1
def Ty.deepL (acc : Int) : List Ty → Int
  | [] => acc
  | t :: r => Ty.deepL (mx acc t.deep) r
end
theorem Ty.deep_eq (t : Ty) : t.deep = add64 (Ty.deepL 0 t.args) 1 := by cases t; rw [Ty.deep]
mutual
def Exp.deep : Exp → Int
  | ⟨_, _, _, _, ts, _, xs⟩ => add64 (Exp.deepL (Ty.deepL 0 ts) xs) 1
def Exp.deepL (acc : Int) : List Exp → Int
  | [] => acc
  | t :: r => Exp.deepL (mx acc t.deep) r
end
theorem Exp.deep_eq (t : Exp) : t.deep = add64 (Exp.deepL (Ty.deepL 0 t.types) t.kids) 1 := by cases t; rw [Exp.deep]
theorem deep47 : ∀ (t : Ty) (h : Heap), t.Ok → evw E 47 [.agg t.cells] h = some (.ret (.lit (.int .i64 t.deep)), h)
  | t, h, ok => by
    have hlen := ok.len
    have loop : ∀ (q i : Nat) (acc : Int), i ≤ t.args.length → t.args.length < q + i → Lp47_0 (evw E) (t.args.length + 1) h q h (.lit (.int .i64 acc)) (.sl 5 (t.args.map Ty.cells)) (.lit (.int .i64 (t.args.length : Int))) (.lit (.int .i64 (i : Int))) = some (.ret (.lit (.int .i64 (add64 (Ty.deepL acc (t.args.drop i)) 1))), h) := by
      intro q
      induction q with
      | zero => intro i acc h1 h2; omega
      | succ q ih =>
        intro i acc h1 h2
        rw [Lp47_0_succ, bin_int, lssI, bind_some', boolB, bind_some']
        by_cases hi : i < t.args.length
        · have hrec := deep47 (t.args[i]) h (ok.arg (List.getElem_mem hi))
          rw [ltT hi, condT, indexA_map _ _ _ _ hi, bind_some', partA_full (Ty.cells_len _), bind_some', aggS, bind_some', Ty.cells_len, b5, condT, Ty.refold, hrec, onOut_ret, maxs1, bind_some', bin_int, addI, bind_some', incI (by omega), ih (i + 1) _ hi (by omega), List.drop_eq_getElem_cons hi, Ty.deepL]
        · rw [ltF hi, condF, List.drop_of_length_le (by omega), Ty.deepL, bin_int, addI, bind_some']
    refine evw_run primsC (t.args.length + 1) rfl rfl rfl ?_
    rw [nf47, aggS, bind_some', Ty.cells_len, b5, condT, Ty.c4, lenA22, bind_some', List.length_map, Ty.deep_eq]
    have := loop (t.args.length + 1) 0 0 (Nat.zero_le _) (by omega)
    rw [List.drop_zero] at this
    exact this
  termination_by t => SizeOf.sizeOf t
  decreasing_by exact Ty.size_arg hi
theorem deep48 : ∀ (t : Ty) (h : Heap), t.Ok → evw E 48 [.agg t.cells] h = some (.ret (.lit (.int .i64 t.deep)), h)
  | t, h, ok => by
    have hlen := ok.len
    have loop : ∀ (x0 x1 x2 x3 : AV) (q i : Nat) (acc : Int), i ≤ t.args.length → t.args.length < q + i → Lp48_0 (evw E) (t.args.length + 1) h q h x0 x1 x2 x3 (.sl 5 (t.args.map Ty.cells)) (.lit (.int .i64 acc)) (.lit (.int .i64 (i : Int))) = some (.ret (.lit (.int .i64 (add64 (Ty.deepL acc (t.args.drop i)) 1))), h) := by
      intro x0 x1 x2 x3 q
      induction q with
      | zero => intro i acc h1 h2; omega
      | succ q ih =>
        intro i acc h1 h2
        rw [Lp48_0_succ, lenA22, bind_some', List.length_map, bin_int, lssI, bind_some', boolB, bind_some']
        by_cases hi : i < t.args.length
        · have hrec := deep48 (t.args[i]) h (ok.arg (List.getElem_mem hi))
          rw [ltT hi, condT, indexA_map _ _ _ _ hi, bind_some', partA_full (Ty.cells_len _), bind_some', hrec, onOut_ret, maxs1, bind_some', bin_int, addI, bind_some', incI (by omega), ih (i + 1) _ hi (by omega), List.drop_eq_getElem_cons hi, Ty.deepL]
        · rw [ltF hi, condF, List.drop_of_length_le (by omega), Ty.deepL, bin_int, addI, bind_some']
    refine evw_run primsC (t.args.length + 1) rfl rfl rfl ?_
    rw [nf48, aggS, bind_some', Ty.cells_len, b5, condT, Ty.c0, Ty.c1, Ty.c2, Ty.c3, Ty.c4, Ty.deep_eq]
    have := loop (.lit (.int .i64 t.k)) (.lit (.int .i64 t.n)) (.lit (.string t.name)) (.sl 1 (t.labels.map strC)) (t.args.length + 1) 0 0 (Nat.zero_le _) (by omega)
    rw [List.drop_zero] at this
    exact this
  termination_by t => SizeOf.sizeOf t
  decreasing_by exact Ty.size_arg hi
theorem deep17 : ∀ (e : Exp) (h : Heap), e.Ok → evw E 17 [.agg e.cells] h = some (.ret (.lit (.int .i64 e.deep)), h)
  | e, h, ok => by
    have hlen : e.kids.length ≤ 9223372036854775807 := ok.len
    have htl : e.types.length ≤ 9223372036854775807 := ok.tlen
    obtain ⟨N, hN⟩ : ∃ N, N = e.kids.length + e.types.length + 1 := ⟨_, rfl⟩
    have loop1 : ∀ (q i : Nat) (acc : Int), i ≤ e.kids.length → e.kids.length < q + i → Lp17_1 (evw E) N h q h (.lit (.int .i64 acc)) (.sl 7 (e.kids.map Exp.cells)) (.lit (.int .i64 (e.kids.length : Int))) (.lit (.int .i64 (i : Int))) = some (.ret (.lit (.int .i64 (add64 (Exp.deepL acc (e.kids.drop i)) 1))), h) := by
      intro q
      induction q with
      | zero => intro i acc h1 h2; omega
      | succ q ih =>
        intro i acc h1 h2
        rw [Lp17_1_succ, bin_int, lssI, bind_some', boolB, bind_some']
        by_cases hi : i < e.kids.length
        · have hrec := deep17 (e.kids[i]) h (ok.kid (List.getElem_mem hi))
          rw [ltT hi, condT, indexA_map _ _ _ _ hi, bind_some', partA_full (Exp.cells_len _), bind_some', aggS, bind_some', Exp.cells_len, b7, condT, Exp.re, hrec, onOut_ret, maxs1, bind_some', bin_int, addI, bind_some', incI (by omega), ih (i + 1) _ hi (by omega), List.drop_eq_getElem_cons hi, Exp.deepL]
        · rw [ltF hi, condF, List.drop_of_length_le (by omega), Exp.deepL, bin_int, addI, bind_some']
    have loop0 : ∀ (x0 x1 x2 x3 x4 x5 : AV) (q i : Nat) (acc : Int), i ≤ e.types.length → e.types.length < q + i → Lp17_0 (evw E) N h q h x0 x1 x2 x3 x4 x5 (.sl 7 (e.kids.map Exp.cells)) (.lit (.int .i64 acc)) (.sl 5 (e.types.map Ty.cells)) (.lit (.int .i64 (e.types.length : Int))) (.lit (.int .i64 (i : Int))) = some (.ret (.lit (.int .i64 (add64 (Exp.deepL (Ty.deepL acc (e.types.drop i)) e.kids) 1))), h) := by
      intro x0 x1 x2 x3 x4 x5 q
      induction q with
      | zero => intro i acc h1 h2; omega
      | succ q ih =>
        intro i acc h1 h2
        rw [Lp17_0_succ, bin_int, lssI, bind_some', boolB, bind_some']
        by_cases hi : i < e.types.length
        · rw [ltT hi, condT, indexA_map _ _ _ _ hi, bind_some', partA_full (Ty.cells_len _), bind_some', aggS, bind_some', Ty.cells_len, b5, condT, Ty.refold, deep47 _ _ (ok.ty (List.getElem_mem hi)), onOut_ret, maxs1, bind_some', bin_int, addI, bind_some', incI (by omega), ih (i + 1) _ hi (by omega), List.drop_eq_getElem_cons hi, Ty.deepL]
        · rw [ltF hi, condF, List.drop_of_length_le (show e.types.length ≤ i by omega), Ty.deepL, lenA24, bind_some', List.length_map]
          have := loop1 N 0 acc (Nat.zero_le _) (by omega)
          rw [List.drop_zero] at this
          exact this
    refine evw_run primsC N rfl rfl rfl ?_
    rw [nf17, aggS, bind_some', Exp.cells_len, b7, condT, Exp.c0, Exp.c1, Exp.c2, Exp.c3, Exp.c4, Exp.c5, Exp.c6, lenA22, bind_some', List.length_map, Exp.deep_eq]
    have := loop0 (.lit (.int .i64 e.k)) (.lit (.int .i64 e.n)) (.lit (.string e.name)) (.lit (.bool e.has)) (.sl 5 (e.types.map Ty.cells)) (.sl 1 (e.labels.map strC)) N 0 0 (Nat.zero_le _) (by omega)
    rw [List.drop_zero] at this
    exact this
  termination_by e => SizeOf.sizeOf e
  decreasing_by exact Exp.size_kid hi
theorem deep18 : ∀ (e : Exp) (h : Heap), e.Ok → evw E 18 [.agg e.cells] h = some (.ret (.lit (.int .i64 e.deep)), h)
  | e, h, ok => by
    have hlen : e.kids.length ≤ 9223372036854775807 := ok.len
    have htl : e.types.length ≤ 9223372036854775807 := ok.tlen
    obtain ⟨N, hN⟩ : ∃ N, N = e.kids.length + e.types.length + 1 := ⟨_, rfl⟩
    have loop1 : ∀ (x0 x1 x2 x3 x4 x5 : AV) (q i : Nat) (acc : Int), i ≤ e.kids.length → e.kids.length < q + i → Lp18_1 (evw E) N h q h x0 x1 x2 x3 x4 x5 (.sl 7 (e.kids.map Exp.cells)) (.lit (.int .i64 acc)) (.lit (.int .i64 (i : Int))) = some (.ret (.lit (.int .i64 (add64 (Exp.deepL acc (e.kids.drop i)) 1))), h) := by
      intro x0 x1 x2 x3 x4 x5 q
      induction q with
      | zero => intro i acc h1 h2; omega
      | succ q ih =>
        intro i acc h1 h2
        rw [Lp18_1_succ, lenA24, bind_some', List.length_map, bin_int, lssI, bind_some', boolB, bind_some']
        by_cases hi : i < e.kids.length
        · have hrec := deep18 (e.kids[i]) h (ok.kid (List.getElem_mem hi))
          rw [ltT hi, condT, indexA_map _ _ _ _ hi, bind_some', partA_full (Exp.cells_len _), bind_some', hrec, onOut_ret, maxs1, bind_some', bin_int, addI, bind_some', incI (by omega), ih (i + 1) _ hi (by omega), List.drop_eq_getElem_cons hi, Exp.deepL]
        · rw [ltF hi, condF, List.drop_of_length_le (by omega), Exp.deepL, bin_int, addI, bind_some']
    have loop0 : ∀ (x0 x1 x2 x3 x5 : AV) (q i : Nat) (acc : Int), i ≤ e.types.length → e.types.length < q + i → Lp18_0 (evw E) N h q h x0 x1 x2 x3 (.sl 5 (e.types.map Ty.cells)) x5 (.sl 7 (e.kids.map Exp.cells)) (.lit (.int .i64 acc)) (.lit (.int .i64 (i : Int))) = some (.ret (.lit (.int .i64 (add64 (Exp.deepL (Ty.deepL acc (e.types.drop i)) e.kids) 1))), h) := by
      intro x0 x1 x2 x3 x5 q
      induction q with
      | zero => intro i acc h1 h2; omega
      | succ q ih =>
        intro i acc h1 h2
        rw [Lp18_0_succ, lenA22, bind_some', List.length_map, bin_int, lssI, bind_some', boolB, bind_some']
        by_cases hi : i < e.types.length
        · rw [ltT hi, condT, indexA_map _ _ _ _ hi, bind_some', partA_full (Ty.cells_len _), bind_some', deep48 _ _ (ok.ty (List.getElem_mem hi)), onOut_ret, maxs1, bind_some', bin_int, addI, bind_some', incI (by omega), ih (i + 1) _ hi (by omega), List.drop_eq_getElem_cons hi, Ty.deepL]
        · rw [ltF hi, condF, List.drop_of_length_le (show e.types.length ≤ i by omega), Ty.deepL]
          have := loop1 x0 x1 x2 x3 (.sl 5 (e.types.map Ty.cells)) x5 N 0 acc (Nat.zero_le _) (by omega)
          rw [List.drop_zero] at this
          exact this
    refine evw_run primsC N rfl rfl rfl ?_
    rw [nf18, aggS, bind_some', Exp.cells_len, b7, condT, Exp.c0, Exp.c1, Exp.c2, Exp.c3, Exp.c4, Exp.c5, Exp.c6, Exp.deep_eq]
    have := loop0 (.lit (.int .i64 e.k)) (.lit (.int .i64 e.n)) (.lit (.string e.name)) (.lit (.bool e.has)) (.sl 1 (e.labels.map strC)) N 0 0 (Nat.zero_le _) (by omega)
    rw [List.drop_zero] at this
    exact this
  termination_by e => SizeOf.sizeOf e
  decreasing_by exact Exp.size_kid hi

/- At, by definition -/
theorem bleI (a b : Int) (h : a ≤ b) : decide (b ≥ a) = true := by simpa using h
theorem at14 : ∀ (e : Exp) (k : Int) (h : Heap), e.Ok → expsN e.pre ≤ 1048576 → -9223372036854775808 ≤ k → k ≤ 9223372036854775807 → evw E 14 [.agg e.cells, .lit (.int .i64 k)] h = some (.ret (.tup [.agg ((e.at k).getD zeroE).cells, .lit (.bool (e.at k).isSome)]), h)
  | e, k, h, ok, hv, hk1, hk2 => by
    have hlen : e.kids.length ≤ 9223372036854775807 := ok.len
    have hv' := hv
    rw [Exp.pre_eq, expsN] at hv'
    have hp := expsN_len (Exp.preL e.kids)
    have z0 : ∀ v, (some (Out.ret (.tup [.agg [.lit (.int .i64 0), .lit (.int .i64 0), .lit (.string ByteArray.empty), .lit (.bool false), .sl 5 [], .sl 1 [], .sl 7 []], .lit (.bool v)]), h) : R) = some (.ret (.tup [.agg zeroE.cells, .lit (.bool v)]), h) := fun v => by rw [Exp.cells_eq zeroE]; rfl
    have loop : ∀ (x0 x1 x2 x3 x4 x5 : AV) (q i at' : Nat), 1 < k → i ≤ e.kids.length → e.kids.length < q + i → at' + (Exp.preL (e.kids.drop i)).length ≤ 1048578 → (at' : Int) ≤ k →
        Lp14_0 (evw E) (e.kids.length + 1) h q h (.lit (.int .i64 k)) x0 x1 x2 x3 x4 x5 (.sl 7 (e.kids.map Exp.cells)) (.lit (.int .i64 0)) (.lit (.int .i64 0)) (.lit (.string ByteArray.empty)) (.lit (.bool false)) [] [] [] (.lit (.int .i64 (at' : Int))) (.lit (.int .i64 (i : Int))) = some (.ret (.tup [.agg (((Exp.preL (e.kids.drop i))[(k - at').toNat]?).getD zeroE).cells, .lit (.bool ((Exp.preL (e.kids.drop i))[(k - at').toNat]?).isSome)]), h) := by
      intro x0 x1 x2 x3 x4 x5 q
      induction q with
      | zero => intro i at' _ h1 h2; omega
      | succ q ih =>
        intro i at' hk0 h1 h2 h3 h4
        rw [Lp14_0_succ, lenA24, bind_some', List.length_map, bin_int, lssI, bind_some', boolB, bind_some']
        by_cases hi : i < e.kids.length
        · have hkN := Exp.kid_N i hi
          have oc := ok.kid (List.getElem_mem hi)
          rw [Exp.preL_take _ _ hi, List.length_append] at h3
          have hadd : add64 (at' : Int) ((e.kids[i]).pre.length : Int) = ((at' + (e.kids[i]).pre.length : Nat) : Int) := by unfold add64; rw [IntWalk.i64_in _ (by omega)]; omega
          rw [ltT hi, condT, indexA_map _ _ _ _ hi, bind_some', partA_full (Exp.cells_len _), bind_some', count19 _ _ oc (by omega), onOut_ret, bin_int, geqI, bind_some', boolB, bind_some', bleI _ _ h4, condT, bin_int, addI, bind_some', hadd, bin_int, lssI, bind_some', boolB, bind_some', Exp.preL_take _ _ hi]
          by_cases hlt : k < ((at' + (e.kids[i]).pre.length : Nat) : Int)
          · rw [decide_eq_true hlt, condT, bind_some', partA_full (Exp.cells_len _), bind_some', bin_int, subI, bind_some', bin_int, addI, bind_some', show add64 (sub64 k (at' : Int)) 1 = k - at' + 1 from by
              unfold add64 sub64
              rw [IntWalk.i64_in (k - at') (by omega), IntWalk.i64_in _ (by omega)]]
            have hrec := at14 (e.kids[i]) (k - at' + 1) h oc (by omega) (by omega) (by omega)
            rw [hrec, onOut_ret, tupS, bind_some', t0, bind_some', bind_some', t1, bind_some', aggS, bind_some', Exp.cells_len, b7, condT, Exp.re]
            have : (e.kids[i]).at (k - at' + 1) = ((e.kids[i]).pre ++ Exp.preL (e.kids.drop (i + 1)))[(k - at').toNat]? := by
              unfold Exp.at
              rw [if_pos (by omega), show k - (at' : Int) + 1 - 1 = k - at' from by omega, List.getElem?_append_left (by omega)]
            rw [this]
          · rw [decide_eq_false hlt, condF, bind_some', bin_int, addI, bind_some', incI (by omega), ih (i + 1) _ hk0 hi (by omega) (by omega) (by omega), List.getElem?_append_right (by omega)]
            rw [show (k - (at' : Int)).toNat - (e.kids[i]).pre.length = (k - ((at' + (e.kids[i]).pre.length : Nat) : Int)).toNat from by omega]
        · rw [ltF hi, condF, List.drop_of_length_le (by omega), Exp.preL_nil, List.getElem?_nil]
          exact z0 false
    refine evw_run primsC (e.kids.length + 1) rfl rfl rfl ?_
    rw [nf14, aggS, bind_some', Exp.cells_len, b7, condT, bin_int, eqlI, bind_some', boolB, bind_some', Exp.re]
    by_cases hk : k = 1
    · subst hk
      rw [show ((1 : Int) == 1) = true from rfl, condT]
      have : e.at 1 = some e := by
        unfold Exp.at
        rw [if_pos (by omega), Exp.pre_eq]; rfl
      rw [this]; rfl
    · rw [beq_false_of_ne hk, condF, bin_int, lssI, bind_some', boolB, bind_some']
      by_cases hl : k < 1
      · have : e.at k = none := by unfold Exp.at; rw [if_neg (by omega)]
        rw [decide_eq_true hl, condT, this]
        exact z0 false
      · have := loop (.lit (.int .i64 e.k)) (.lit (.int .i64 e.n)) (.lit (.string e.name)) (.lit (.bool e.has)) (.sl 5 (e.types.map Ty.cells)) (.sl 1 (e.labels.map strC)) (e.kids.length + 1) 0 2 (by omega) (Nat.zero_le _) (by omega) (by rw [List.drop_zero]; omega) (by omega)
        rw [List.drop_zero] at this
        have hat : e.at k = (Exp.preL e.kids)[(k - ((2 : Nat) : Int)).toNat]? := by
          unfold Exp.at
          rw [if_pos (by omega), Exp.pre_eq, show (k - 1).toNat = (k - ((2 : Nat) : Int)).toNat + 1 from by omega, List.getElem?_cons_succ]
        rw [decide_eq_false hl, condF, hat, Exp.c0, Exp.c1, Exp.c2, Exp.c3, Exp.c4, Exp.c5, Exp.c6]
        exact this
  termination_by e => SizeOf.sizeOf e
  decreasing_by exact Exp.size_kid hi
end Go.Sh.T

/- What is free, and called: the document's lists and the program's. -/
namespace Go.Sh.T
open Go Go.Sh
set_option linter.unusedSimpArgs false
set_option linter.unusedVariables false
set_option maxRecDepth 100000
/-- A text, put in its place in a list that rises, once. -/
def putR : List ByteArray → ByteArray → List ByteArray
  | [], s => [s]
  | x :: r, s => bif strLt x s then x :: putR r s else bif !(strLt x s || strEq x s) then s :: x :: r else x :: r
theorem putR_len (s : ByteArray) : ∀ l : List ByteArray, (putR l s).length ≤ l.length + 1
  | [] => Nat.le_refl _
  | x :: r => by
    have := putR_len s r
    rw [putR]
    cases strLt x s with
    | true => rw [cond_true, List.length_cons, List.length_cons]; omega
    | false =>
      rw [cond_false]
      cases !(false || strEq x s) with
      | true => rw [cond_true]; simp
      | false => rw [cond_false]; simp
theorem foldR_len : ∀ (l out : List ByteArray), (l.foldl putR out).length ≤ out.length + l.length
  | [], out => Nat.le_refl _
  | x :: l, out => by
    have h1 := foldR_len l (putR out x)
    have h2 := putR_len x out
    rw [List.foldl_cons, List.length_cons]; omega
theorem geqS (x y : ByteArray) : strBin .geq x y = some (.lit (.bool (!strLt x y))) := (Eq.refl _).trans rfl
theorem gtrS (x y : ByteArray) : strBin .gtr x y = some (.lit (.bool (!(strLt x y || strEq x y)))) := (Eq.refl _).trans rfl
theorem neqS (x y : ByteArray) : strBin .neq x y = some (.lit (.bool (!strEq x y))) := (Eq.refl _).trans rfl
theorem one_str (s : ByteArray) : AV.one (.lit (.string s)) = true := rfl
theorem app_str (acc : List ByteArray) (s : ByteArray) : acc.map strC ++ [[AV.lit (.string s)]] = (acc ++ [s]).map strC := by rw [List.map_append]; rfl
theorem ble_app (acc : List ByteArray) (s : ByteArray) (h : acc.length + 1 ≤ maxApp) : Nat.ble ((acc.map strC).length + ([[AV.lit (.string s)]] : List (List AV)).length) maxApp = true := by rw [Nat.ble_eq, List.length_map]; exact h
theorem put55 (l : List ByteArray) (hl : l.length + 1 ≤ maxApp) (s : ByteArray) (h : Heap) : evw E 55 [.sl 1 (l.map strC), .lit (.string s)] h = some (.own 1 ((putR l s).map strC), h) := by
  have hm : maxApp = 2147483648 := rfl
  have done : ∀ (q i : Nat) (acc : List ByteArray), i ≤ l.length → l.length < q + i → acc.length + (l.drop i).length ≤ maxApp → Lp55_0 (evw E) (l.length + 1) h q h (.sl 1 (l.map strC)) (.lit (.string s)) (acc.map strC) (.lit (.bool true)) (.lit (.int .i64 (i : Int))) = some (.own 1 ((acc ++ l.drop i).map strC), h) := by
    intro q
    induction q with
    | zero => intro i acc h1 h2; omega
    | succ q ih =>
      intro i acc h1 h2 h3
      rw [Lp55_0_succ, lenA23, bind_some', List.length_map, bin_int, lssI, bind_some', boolB, bind_some']
      by_cases hi : i < l.length
      · rw [List.drop_eq_getElem_cons hi, List.length_cons] at h3
        rw [ltT hi, condT, notB, bind_some', boolB, bind_some', Bool.not_true, condF, indexA_map _ _ _ _ hi, bind_some', part_str, bind_some', one_str, condT, ble_app _ _ (by omega), condT, bin_int, addI, bind_some', incI (by omega), app_str, ih (i + 1) _ hi (by omega) (by rw [List.length_append, List.length_singleton]; omega), List.drop_eq_getElem_cons hi, List.append_assoc]; rfl
      · rw [ltF hi, condF, notB, bind_some', boolB, bind_some', Bool.not_true, condF, List.drop_of_length_le (by omega), List.append_nil]
  have loop : ∀ (q i : Nat) (acc : List ByteArray), i ≤ l.length → l.length < q + i → acc.length + (l.drop i).length + 1 ≤ maxApp → Lp55_0 (evw E) (l.length + 1) h q h (.sl 1 (l.map strC)) (.lit (.string s)) (acc.map strC) (.lit (.bool false)) (.lit (.int .i64 (i : Int))) = some (.own 1 ((acc ++ putR (l.drop i) s).map strC), h) := by
    intro q
    induction q with
    | zero => intro i acc h1 h2; omega
    | succ q ih =>
      intro i acc h1 h2 h3
      rw [Lp55_0_succ, lenA23, bind_some', List.length_map, bin_int, lssI, bind_some', boolB, bind_some']
      by_cases hi : i < l.length
      · rw [List.drop_eq_getElem_cons hi, List.length_cons] at h3
        rw [ltT hi, condT, notB, bind_some', boolB, bind_some', Bool.not_false, condT, indexA_map _ _ _ _ hi, bind_some', part_str, bind_some', bin_str, geqS, bind_some', boolB, bind_some', List.drop_eq_getElem_cons hi, putR]
        cases h1 : strLt l[i] s with
        | true =>
          rw [Bool.not_true, condF, cond_true, bind_some', part_str, bind_some', one_str, condT, ble_app _ _ (by omega), condT, bin_int, addI, bind_some', incI (by omega), app_str, ih (i + 1) _ hi (by omega) (by rw [List.length_append, List.length_singleton]; omega), List.append_assoc]; rfl
        | false =>
          rw [Bool.not_false, condT, cond_false, bind_some', part_str, bind_some', bin_str, gtrS, h1, bind_some', boolB, bind_some']
          cases h2' : !(false || strEq l[i] s) with
          | true =>
            rw [condT, cond_true, one_str, condT, ble_app _ _ (by omega), condT, app_str, bind_some', part_str, bind_some', one_str, condT, ble_app _ _ (by rw [List.length_append, List.length_singleton]; omega), condT, bin_int, addI, bind_some', incI (by omega), app_str, done q (i + 1) _ hi (by omega) (by rw [List.length_append, List.length_append, List.length_singleton, List.length_singleton]; omega), List.append_assoc, List.append_assoc]; rfl
          | false =>
            rw [condF, cond_false, bind_some', part_str, bind_some', one_str, condT, ble_app _ _ (by omega), condT, bin_int, addI, bind_some', incI (by omega), app_str, done q (i + 1) _ hi (by omega) (by rw [List.length_append, List.length_singleton]; omega), List.append_assoc]; rfl
      · rw [List.drop_of_length_le (show l.length ≤ i by omega)] at h3 ⊢
        rw [List.length_nil] at h3
        rw [ltF hi, condF, notB, bind_some', boolB, bind_some', Bool.not_false, condT, one_str, condT, ble_app _ _ (by omega), condT, app_str, putR]
  refine evw_run primsC (l.length + 1) rfl rfl rfl ?_
  rw [nf55]
  have := loop (l.length + 1) 0 [] (Nat.zero_le _) (by omega) (by rw [List.drop_zero, List.length_nil]; omega)
  rw [List.drop_zero] at this
  exact this
theorem without54 (l : List ByteArray) (hl : l.length ≤ maxApp) (s : ByteArray) (h : Heap) : evw E 54 [.sl 1 (l.map strC), .lit (.string s)] h = some (.ret (.sl 1 ((l.filter fun x => !strEq x s).map strC)), h) := by
  have hm : maxApp = 2147483648 := rfl
  have loop : ∀ (q i : Nat) (acc : List ByteArray), i ≤ l.length → l.length < q + i → acc.length + (l.drop i).length ≤ maxApp → Lp54_0 (evw E) (l.length + 1) h q h (.sl 1 (l.map strC)) (.lit (.string s)) (acc.map strC) (.lit (.int .i64 (i : Int))) = some (.ret (.sl 1 ((acc ++ (l.drop i).filter fun x => !strEq x s).map strC)), h) := by
    intro q
    induction q with
    | zero => intro i acc h1 h2; omega
    | succ q ih =>
      intro i acc h1 h2 h3
      rw [Lp54_0_succ, lenA23, bind_some', List.length_map, bin_int, lssI, bind_some', boolB, bind_some']
      by_cases hi : i < l.length
      · rw [List.drop_eq_getElem_cons hi, List.length_cons] at h3
        rw [ltT hi, condT, indexA_map _ _ _ _ hi, bind_some', part_str, bind_some', bin_str, neqS, bind_some', boolB, bind_some', List.drop_eq_getElem_cons hi, List.filter_cons]
        cases h1 : strEq l[i] s with
        | true => rw [Bool.not_true, condF, if_neg (by simp), bin_int, addI, bind_some', incI (by omega), ih (i + 1) _ hi (by omega) (by omega)]
        | false => rw [Bool.not_false, condT, if_pos rfl, bind_some', part_str, bind_some', one_str, condT, ble_app _ _ (by omega), condT, bin_int, addI, bind_some', incI (by omega), app_str, ih (i + 1) _ hi (by omega) (by rw [List.length_append, List.length_singleton]; omega), List.append_assoc]; rfl
      · rw [ltF hi, condF, List.drop_of_length_le (by omega), List.filter_nil, List.append_nil]
  refine evw_run primsC (l.length + 1) rfl rfl rfl ?_
  rw [nf54]
  have := loop (l.length + 1) 0 [] (Nat.zero_le _) (by omega) (by rw [List.drop_zero, List.length_nil]; omega)
  rw [List.drop_zero] at this
  exact this

mutual
/-- The document's free names. -/
def Exp.rfree : Exp → List ByteArray
  | ⟨k, n, s, b, ts, ls, xs⟩ => Exp.rfreeK k s xs 0 (bif k == 4 then [s] else [])
def Exp.rfreeK (k : Int) (s : ByteArray) : List Exp → Nat → List ByteArray → List ByteArray
  | [], _, out => out
  | x :: r, i, out => Exp.rfreeK k s r (i + 1) ((bif k == 7 || (k == 5 && decide ((i : Int) > 0)) then x.rfree.filter (fun y => !strEq y s) else x.rfree).foldl putR out)
end
theorem Exp.rfree_eq (e : Exp) : e.rfree = Exp.rfreeK e.k e.name e.kids 0 (bif e.k == 4 then [e.name] else []) := by cases e; rw [Exp.rfree]
mutual
/-- The document's called names. -/
def Exp.rcalls : Exp → List ByteArray
  | ⟨k, n, s, b, ts, ls, xs⟩ => Exp.rcallsK xs (bif k == 13 then [s] else [])
def Exp.rcallsK : List Exp → List ByteArray → List ByteArray
  | [], out => out
  | x :: r, out => Exp.rcallsK r (x.rcalls.foldl putR out)
end
theorem Exp.rcalls_eq (e : Exp) : e.rcalls = Exp.rcallsK e.kids (bif e.k == 13 then [e.name] else []) := by cases e; rw [Exp.rcalls]
mutual
theorem Exp.rfree_len : ∀ e : Exp, e.rfree.length ≤ e.pre.length
  | ⟨k, n, s, b, ts, ls, xs⟩ => by
    have := Exp.rfreeK_len k s xs 0 (bif k == 4 then [s] else [])
    rw [Exp.rfree, Exp.pre, List.length_cons]
    have h1 : (bif k == 4 then [s] else []).length ≤ 1 := by cases k == 4 <;> simp
    omega
theorem Exp.rfreeK_len (k : Int) (s : ByteArray) : ∀ (l : List Exp) (i : Nat) (out : List ByteArray), (Exp.rfreeK k s l i out).length ≤ out.length + (Exp.preL l).length
  | [], i, out => by rw [Exp.rfreeK]; exact Nat.le_add_right _ _
  | x :: r, i, out => by
    have h1 := Exp.rfree_len x
    rw [Exp.rfreeK, Exp.preL, List.length_append]
    have h2 := Exp.rfreeK_len k s r (i + 1) ((bif k == 7 || (k == 5 && decide ((i : Int) > 0)) then x.rfree.filter (fun y => !strEq y s) else x.rfree).foldl putR out)
    have h3 := foldR_len (bif k == 7 || (k == 5 && decide ((i : Int) > 0)) then x.rfree.filter (fun y => !strEq y s) else x.rfree) out
    have h4 : (bif k == 7 || (k == 5 && decide ((i : Int) > 0)) then x.rfree.filter (fun y => !strEq y s) else x.rfree).length ≤ x.rfree.length := by
      cases k == 7 || (k == 5 && decide ((i : Int) > 0)) with
      | true => rw [cond_true]; exact List.length_filter_le _ _
      | false => exact Nat.le_refl _
    omega
end
mutual
theorem Exp.rcalls_len : ∀ e : Exp, e.rcalls.length ≤ e.pre.length
  | ⟨k, n, s, b, ts, ls, xs⟩ => by
    have := Exp.rcallsK_len xs (bif k == 13 then [s] else [])
    rw [Exp.rcalls, Exp.pre, List.length_cons]
    have h1 : (bif k == 13 then [s] else []).length ≤ 1 := by cases k == 13 <;> simp
    omega
theorem Exp.rcallsK_len : ∀ (l : List Exp) (out : List ByteArray), (Exp.rcallsK l out).length ≤ out.length + (Exp.preL l).length
  | [], out => by rw [Exp.rcallsK]; exact Nat.le_add_right _ _
  | x :: r, out => by
    have h1 := Exp.rcalls_len x
    have h2 := Exp.rcallsK_len r (x.rcalls.foldl putR out)
    have h3 := foldR_len x.rcalls out
    rw [Exp.rcallsK, Exp.preL, List.length_append]
    omega
end

theorem Exp.kid_len {e : Exp} (i : Nat) (hi : i < e.kids.length) : (e.kids[i]).pre.length ≤ (Exp.preL e.kids).length := by
  have key : ∀ (l : List Exp) (x : Exp), x ∈ l → x.pre.length ≤ (Exp.preL l).length := by
    intro l
    induction l with
    | nil => intro x hx; cases hx
    | cons y r ih =>
      intro x hx
      rw [Exp.preL_cons, List.length_append]
      rcases List.mem_cons.1 hx with e | e
      · rw [e]; omega
      · have := ih x e; omega
  exact key _ _ (List.getElem_mem hi)
theorem onOut_own {ρ : Type} (n : Nat) (es : List (List AV)) (h : Heap) (k1 : AV → Heap → Option ρ) (k2 : Nat → List (List AV) → Heap → Option ρ) (k3 : AV → Heap → Option ρ) : onOut (some (.own n es, h)) k1 k2 k3 = k2 n es h := (Eq.refl _).trans rfl
theorem free23 : ∀ (e : Exp) (h : Heap), e.Ok → e.pre.length ≤ 1048576 → evw E 23 [.agg e.cells] h = some (.ret (.sl 1 (e.rfree.map strC)), h)
  | e, h, ok, hv => by
    have hlen : e.kids.length ≤ 9223372036854775807 := ok.len
    have hm : maxApp = 2147483648 := rfl
    rw [Exp.pre_eq, List.length_cons] at hv
    obtain ⟨N, hN⟩ : ∃ N, N = e.kids.length + 1048578 := ⟨_, rfl⟩
    have inner : ∀ (m0 : Nat) (x0 x1 x2 x3 x4 x5 x6 : AV) (l : List ByteArray) (k : Int), l.length ≤ 1048576 → ∀ (q i : Nat) (out : List ByteArray), i ≤ l.length → l.length < q + i → out.length + (l.drop i).length ≤ 4194304 →
        Lp23_1 (evw E) N h m0 q h x0 x1 x2 x3 x4 x5 x6 1 (out.map strC) (.lit (.int .i64 k)) (.sl 1 (l.map strC)) (.lit (.int .i64 (i : Int))) = Lp23_0 (evw E) N h m0 h x0 x1 x2 x3 x4 x5 x6 1 (((l.drop i).foldl putR out).map strC) (.lit (.int .i64 (add64 k 1))) := by
      intro m0 x0 x1 x2 x3 x4 x5 x6 l k hl q
      induction q with
      | zero => intro i out h1 h2; omega
      | succ q ih =>
        intro i out h1 h2 h3
        rw [Lp23_1_succ, lenA23, bind_some', List.length_map, bin_int, lssI, bind_some', boolB, bind_some']
        by_cases hi : i < l.length
        · rw [List.drop_eq_getElem_cons hi, List.length_cons] at h3
          have hpl := putR_len l[i] out
          rw [ltT hi, condT, indexA_map _ _ _ _ hi, bind_some', part_str, bind_some', put55 out (by omega), onOut_own, bin_int, addI, bind_some', incI (by omega), ih (i + 1) _ hi (by omega) (by omega), List.drop_eq_getElem_cons hi, List.foldl_cons]
        · rw [ltF hi, condF, List.drop_of_length_le (show l.length ≤ i by omega), bin_int, addI, bind_some']; rfl
    have loop : ∀ (x1 x3 x4 x5 : AV) (q i : Nat) (out : List ByteArray), i ≤ e.kids.length → e.kids.length < q + i → out.length + (Exp.preL (e.kids.drop i)).length ≤ 1048577 →
        Lp23_0 (evw E) N h q h (.lit (.int .i64 e.k)) x1 (.lit (.string e.name)) x3 x4 x5 (.sl 7 (e.kids.map Exp.cells)) 1 (out.map strC) (.lit (.int .i64 (i : Int))) = some (.ret (.sl 1 ((Exp.rfreeK e.k e.name (e.kids.drop i) i out).map strC)), h) := by
      intro x1 x3 x4 x5 q
      induction q with
      | zero => intro i out h1 h2; omega
      | succ q ih =>
        intro i out h1 h2 h3
        rw [Lp23_0_succ, lenA24, bind_some', List.length_map, bin_int, lssI, bind_some', boolB, bind_some']
        by_cases hi : i < e.kids.length
        · rw [Exp.preL_take _ _ hi, List.length_append] at h3
          have oc := ok.kid (List.getElem_mem hi)
          have hkl := Exp.kid_len i hi
          have hrec := free23 (e.kids[i]) h oc (by omega)
          have hrl := Exp.rfree_len e.kids[i]
          have step : ∀ l : List ByteArray, l.length ≤ (e.kids[i]).rfree.length → Lp23_1 (evw E) N h q N h (.lit (.int .i64 e.k)) x1 (.lit (.string e.name)) x3 x4 x5 (.sl 7 (e.kids.map Exp.cells)) 1 (out.map strC) (.lit (.int .i64 (i : Int))) (.sl 1 (l.map strC)) (.lit (.int .i64 0)) = some (.ret (.sl 1 ((Exp.rfreeK e.k e.name (e.kids.drop (i + 1)) (i + 1) (l.foldl putR out)).map strC)), h) := by
            intro l hl
            have h4 := inner q (.lit (.int .i64 e.k)) x1 (.lit (.string e.name)) x3 x4 x5 (.sl 7 (e.kids.map Exp.cells)) l (i : Int) (by omega) N 0 out (Nat.zero_le _) (by omega) (by rw [List.drop_zero]; omega)
            have h5 := foldR_len l out
            rw [show ((0 : Nat) : Int) = 0 from rfl, List.drop_zero] at h4
            rw [h4, incI (by omega), ih (i + 1) _ hi (by omega) (by omega)]
          rw [ltT hi, condT, indexA_map _ _ _ _ hi, bind_some', partA_full (Exp.cells_len _), bind_some', hrec, onOut_ret, bin_int, eqlI, bind_some', boolB, bind_some', List.drop_eq_getElem_cons hi, Exp.rfreeK]
          have hw := without54 (e.kids[i]).rfree (by omega) e.name h
          cases h7 : e.k == 7 with
          | true =>
            rw [condT, hw, onOut_ret, step _ (List.length_filter_le _ _), Bool.true_or, cond_true]
          | false =>
            rw [condF, bin_int, eqlI, bind_some', boolB, bind_some', Bool.false_or]
            cases h5 : e.k == 5 with
            | true =>
              rw [condT, bin_int, gtrI, bind_some', boolB, bind_some', Bool.true_and]
              cases decide ((i : Int) > 0) with
              | true => rw [condT, hw, onOut_ret, step _ (List.length_filter_le _ _), cond_true]
              | false => rw [condF, step _ (Nat.le_refl _), cond_false]
            | false => rw [condF, step _ (Nat.le_refl _), Bool.false_and, cond_false]
        · rw [ltF hi, condF, List.drop_of_length_le (by omega), Exp.rfreeK]
    refine evw_run primsC N rfl rfl rfl ?_
    rw [nf23, aggS, bind_some', Exp.cells_len, b7, condT, Exp.c0, Exp.c1, Exp.c2, Exp.c3, Exp.c4, Exp.c5, Exp.c6, bin_int, eqlI, bind_some', boolB, bind_some', Exp.rfree_eq]
    have fin := fun out hh => loop (.lit (.int .i64 e.n)) (.lit (.bool e.has)) (.sl 5 (e.types.map Ty.cells)) (.sl 1 (e.labels.map strC)) N 0 out (Nat.zero_le _) (by omega) hh
    rw [List.drop_zero, show ((0 : Nat) : Int) = 0 from rfl] at fin
    cases e.k == 4 with
    | true =>
      rw [condT, one_str, condT, show Nat.ble ([[AV.lit (.string e.name)]] : List (List AV)).length maxApp = true from by show Nat.ble 1 maxApp = true; decide, condT, cond_true]
      exact fin [e.name] (by rw [List.length_singleton]; omega)
    | false =>
      rw [condF, cond_false]
      exact fin [] (by rw [List.length_nil]; omega)
  termination_by e => SizeOf.sizeOf e
  decreasing_by exact Exp.size_kid hi
theorem calls25 : ∀ (e : Exp) (h : Heap), e.Ok → e.pre.length ≤ 1048576 → evw E 25 [.agg e.cells] h = some (.ret (.sl 1 (e.rcalls.map strC)), h)
  | e, h, ok, hv => by
    have hlen : e.kids.length ≤ 9223372036854775807 := ok.len
    have hm : maxApp = 2147483648 := rfl
    rw [Exp.pre_eq, List.length_cons] at hv
    obtain ⟨N, hN⟩ : ∃ N, N = e.kids.length + 1048578 := ⟨_, rfl⟩
    have inner : ∀ (m0 : Nat) (x0 x1 x2 x3 x4 x5 x6 : AV) (l : List ByteArray) (k : Int), l.length ≤ 1048576 → ∀ (q i : Nat) (out : List ByteArray), i ≤ l.length → l.length < q + i → out.length + (l.drop i).length ≤ 4194304 →
        Lp25_1 (evw E) N h m0 q h x0 x1 x2 x3 x4 x5 x6 1 (out.map strC) (.lit (.int .i64 k)) (.sl 1 (l.map strC)) (.lit (.int .i64 (i : Int))) = Lp25_0 (evw E) N h m0 h x0 x1 x2 x3 x4 x5 x6 1 (((l.drop i).foldl putR out).map strC) (.lit (.int .i64 (add64 k 1))) := by
      intro m0 x0 x1 x2 x3 x4 x5 x6 l k hl q
      induction q with
      | zero => intro i out h1 h2; omega
      | succ q ih =>
        intro i out h1 h2 h3
        rw [Lp25_1_succ, lenA23, bind_some', List.length_map, bin_int, lssI, bind_some', boolB, bind_some']
        by_cases hi : i < l.length
        · rw [List.drop_eq_getElem_cons hi, List.length_cons] at h3
          have hpl := putR_len l[i] out
          rw [ltT hi, condT, indexA_map _ _ _ _ hi, bind_some', part_str, bind_some', put55 out (by omega), onOut_own, bin_int, addI, bind_some', incI (by omega), ih (i + 1) _ hi (by omega) (by omega), List.drop_eq_getElem_cons hi, List.foldl_cons]
        · rw [ltF hi, condF, List.drop_of_length_le (show l.length ≤ i by omega), bin_int, addI, bind_some']; rfl
    have loop : ∀ (x0 x1 x2 x3 x4 x5 : AV) (q i : Nat) (out : List ByteArray), i ≤ e.kids.length → e.kids.length < q + i → out.length + (Exp.preL (e.kids.drop i)).length ≤ 1048577 →
        Lp25_0 (evw E) N h q h x0 x1 x2 x3 x4 x5 (.sl 7 (e.kids.map Exp.cells)) 1 (out.map strC) (.lit (.int .i64 (i : Int))) = some (.ret (.sl 1 ((Exp.rcallsK (e.kids.drop i) out).map strC)), h) := by
      intro x0 x1 x2 x3 x4 x5 q
      induction q with
      | zero => intro i out h1 h2; omega
      | succ q ih =>
        intro i out h1 h2 h3
        rw [Lp25_0_succ, lenA24, bind_some', List.length_map, bin_int, lssI, bind_some', boolB, bind_some']
        by_cases hi : i < e.kids.length
        · rw [Exp.preL_take _ _ hi, List.length_append] at h3
          have oc := ok.kid (List.getElem_mem hi)
          have hkl := Exp.kid_len i hi
          have hrec := calls25 (e.kids[i]) h oc (by omega)
          have hrl := Exp.rcalls_len e.kids[i]
          have h4 := inner q x0 x1 x2 x3 x4 x5 (.sl 7 (e.kids.map Exp.cells)) (e.kids[i]).rcalls (i : Int) (by omega) N 0 out (Nat.zero_le _) (by omega) (by rw [List.drop_zero]; omega)
          have h5 := foldR_len (e.kids[i]).rcalls out
          rw [show ((0 : Nat) : Int) = 0 from rfl, List.drop_zero] at h4
          rw [ltT hi, condT, indexA_map _ _ _ _ hi, bind_some', partA_full (Exp.cells_len _), bind_some', hrec, onOut_ret, h4, incI (by omega), ih (i + 1) _ hi (by omega) (by omega), List.drop_eq_getElem_cons hi, Exp.rcallsK]
        · rw [ltF hi, condF, List.drop_of_length_le (by omega), Exp.rcallsK]
    refine evw_run primsC N rfl rfl rfl ?_
    rw [nf25, aggS, bind_some', Exp.cells_len, b7, condT, Exp.c0, Exp.c1, Exp.c2, Exp.c3, Exp.c4, Exp.c5, Exp.c6, bin_int, eqlI, bind_some', boolB, bind_some', Exp.rcalls_eq]
    have fin := fun out hh => loop (.lit (.int .i64 e.k)) (.lit (.int .i64 e.n)) (.lit (.string e.name)) (.lit (.bool e.has)) (.sl 5 (e.types.map Ty.cells)) (.sl 1 (e.labels.map strC)) N 0 out (Nat.zero_le _) (by omega) hh
    rw [List.drop_zero, show ((0 : Nat) : Int) = 0 from rfl] at fin
    cases e.k == 13 with
    | true =>
      rw [condT, one_str, condT, show Nat.ble ([[AV.lit (.string e.name)]] : List (List AV)).length maxApp = true from by show Nat.ble 1 maxApp = true; decide, condT, cond_true]
      exact fin [e.name] (by rw [List.length_singleton]; omega)
    | false =>
      rw [condF, cond_false]
      exact fin [] (by rw [List.length_nil]; omega)
  termination_by e => SizeOf.sizeOf e
  decreasing_by exact Exp.size_kid hi
end Go.Sh.T

/- What is free, and called, is the same; ExpTells. -/
namespace Go.Sh.T
open Go Go.Sh
set_option linter.unusedSimpArgs false
set_option linter.unusedVariables false
set_option maxRecDepth 100000
theorem strLt_by (x y : ByteArray) : strLt x y = decide (toB x < toB y) := by
  unfold strLt
  rw [Go.Proofs.bytesLess_eq, toList_data, toList_data]
theorem strEq_by (x y : ByteArray) : strEq x y = decide (toB x = toB y) := by
  unfold strEq
  rw [toList_data, toList_data, Bool.eq_iff_iff, beq_iff_eq, decide_eq_true_eq]
theorem putR_by (s : ByteArray) : ∀ l : List ByteArray, (putR l s).map toB = putB (l.map toB) (toB s)
  | [] => rfl
  | x :: r => by
    rw [putR, List.map_cons, putB, strLt_by, strEq_by]
    by_cases h1 : toB x < toB s
    · rw [decide_eq_true h1, cond_true, cond_true, List.map_cons, putR_by s r]
    · rw [decide_eq_false h1, cond_false, cond_false, Bool.false_or]
      by_cases h2 : toB x = toB s
      · rw [decide_eq_true h2, Bool.not_true, cond_false, h2, decide_eq_false (by_irrefl _), cond_false]
        rw [List.map_cons, h2]
      · rw [decide_eq_false h2, Bool.not_false, cond_true]
        have h3 : toB s < toB x := by_lt_of (List.not_lt.1 h1) (fun e => h2 e.symm)
        rw [decide_eq_true h3, cond_true]; rfl
theorem foldR_by : ∀ (l out : List ByteArray), (l.foldl putR out).map toB = (l.map toB).foldl putB (out.map toB)
  | [], out => rfl
  | x :: l, out => by rw [List.foldl_cons, foldR_by l, putR_by, List.map_cons, List.foldl_cons]
theorem mem_toB {x : ByteArray} {l : List ByteArray} : toB x ∈ l.map toB ↔ x ∈ l := by
  constructor
  · intro h
    obtain ⟨y, hy, e⟩ := List.mem_map.1 h
    have : y = x := by rw [← ofB_toB y, ← ofB_toB x, e]
    rw [← this]; exact hy
  · exact fun h => List.mem_map.2 ⟨x, h, rfl⟩
theorem foldR_mem {x : ByteArray} {l out : List ByteArray} : x ∈ l.foldl putR out ↔ x ∈ l ∨ x ∈ out := by
  rw [← mem_toB, foldR_by, foldB_mem, mem_toB, mem_toB]
theorem foldR_rise {l out : List ByteArray} (h : (out.map toB).Pairwise (· < ·)) : ((l.foldl putR out).map toB).Pairwise (· < ·) := by rw [foldR_by]; exact foldB_rise _ _ h
/-- A list that rises, and has what is gathered, is what comes of sorting and compacting. -/
theorem riseL_eq {l m : List ByteArray} (hr : (m.map toB).Pairwise (· < ·)) (hm : ∀ x, x ∈ l ↔ x ∈ m) : riseL l = m := by
  unfold riseL
  have : riseB (l.map toB) = m.map toB := by
    refine rise_same _ _ (riseB_rise _) hr fun z => ?_
    rw [riseB_mem]
    constructor
    · intro h
      obtain ⟨y, hy, rfl⟩ := List.mem_map.1 h
      exact mem_toB.2 ((hm y).1 hy)
    · intro h
      obtain ⟨y, hy, rfl⟩ := List.mem_map.1 h
      exact mem_toB.2 ((hm y).2 hy)
  rw [this, map_ofB]
mutual
theorem Exp.rfree_rise : ∀ e : Exp, (e.rfree.map toB).Pairwise (· < ·)
  | ⟨k, n, s, b, ts, ls, xs⟩ => by
    rw [Exp.rfree]
    refine Exp.rfreeK_rise k s xs 0 _ ?_
    cases k == 4 with
    | true => exact List.pairwise_singleton _ _
    | false => exact List.Pairwise.nil
theorem Exp.rfreeK_rise (k : Int) (s : ByteArray) : ∀ (l : List Exp) (i : Nat) (out : List ByteArray), (out.map toB).Pairwise (· < ·) → ((Exp.rfreeK k s l i out).map toB).Pairwise (· < ·)
  | [], i, out, h => by rw [Exp.rfreeK]; exact h
  | x :: r, i, out, h => by rw [Exp.rfreeK]; exact Exp.rfreeK_rise k s r (i + 1) _ (foldR_rise h)
end
mutual
theorem Exp.rcalls_rise : ∀ e : Exp, (e.rcalls.map toB).Pairwise (· < ·)
  | ⟨k, n, s, b, ts, ls, xs⟩ => by
    rw [Exp.rcalls]
    refine Exp.rcallsK_rise xs _ ?_
    cases k == 13 with
    | true => exact List.pairwise_singleton _ _
    | false => exact List.Pairwise.nil
theorem Exp.rcallsK_rise : ∀ (l : List Exp) (out : List ByteArray), (out.map toB).Pairwise (· < ·) → ((Exp.rcallsK l out).map toB).Pairwise (· < ·)
  | [], out, h => by rw [Exp.rcallsK]; exact h
  | x :: r, out, h => by rw [Exp.rcallsK]; exact Exp.rcallsK_rise r _ (foldR_rise h)
end
theorem eqS'_eq (x y : ByteArray) : eqS' x y = strEq x y := rfl
theorem filt {x s : ByteArray} {l : List ByteArray} : x ∈ l.filter (fun y => !strEq y s) ↔ x ∈ l ∧ eqS' x s = false := by
  rw [List.mem_filter, Bool.not_eq_true', eqS'_eq]
theorem Exp.rfreeK_mem (k : Int) (s : ByteArray) {x : ByteArray} : ∀ (l : List Exp) (i : Nat) (out : List ByteArray), x ∈ Exp.rfreeK k s l i out ↔ x ∈ out ∨ x ∈ Exp.rfreeK k s l i []
  | [], i, out => by rw [Exp.rfreeK, Exp.rfreeK]; simp
  | c :: r, i, out => by
    rw [Exp.rfreeK, Exp.rfreeK, Exp.rfreeK_mem k s r (i + 1), Exp.rfreeK_mem k s r (i + 1) (List.foldl putR [] _), foldR_mem, foldR_mem]
    constructor
    · rintro ((h | h) | h)
      · exact .inr (.inl (.inl h))
      · exact .inl h
      · exact .inr (.inr h)
    · rintro (h | (h | h) | h)
      · exact .inl (.inr h)
      · exact .inl (.inl h)
      · cases h
      · exact .inr h
/-- What is bound ahead of kid number j. -/
def curB (k : Int) (s : ByteArray) (B : ByteArray → Bool) (j : Nat) : ByteArray → Bool := bif k == 7 || (k == 5 && decide (j > 1)) then (fun x => eqS' x s || B x) else B
theorem curB_next (k : Int) (s : ByteArray) (B : ByteArray → Bool) (i : Nat) : (bif k == 5 && Nat.beq i 1 then (fun x => eqS' x s || B x) else curB k s B i) = curB k s B (i + 1) := by
  unfold curB
  cases h7 : k == 7 with
  | true =>
    rw [beq_iff_eq] at h7; subst h7; rfl
  | false =>
    rw [Bool.false_or, Bool.false_or]
    cases h5 : k == 5 with
    | false => rfl
    | true =>
      rw [Bool.true_and, Bool.true_and, Bool.true_and]
      rcases i with _ | _ | i
      · rfl
      · rfl
      · rw [show decide (i + 1 + 1 > 1) = true from by simp, show decide (i + 1 + 1 + 1 > 1) = true from by simp, show Nat.beq (i + 1 + 1) 1 = false from rfl]; rfl
mutual
theorem Exp.free_mem (x : ByteArray) : ∀ (e : Exp) (B : ByteArray → Bool), x ∈ e.free B ↔ x ∈ e.rfree ∧ B x = false
  | ⟨k, n, s, b, ts, ls, xs⟩, B => by
    have ih := Exp.freeK_mem x k s B xs 0
    rw [Exp.free, Exp.rfree, List.mem_append, Exp.rfreeK_mem]
    have hB0 : (bif k == 4 then B else bif k == 7 then (fun x => eqS' x s || B x) else B) = curB k s B 0 := by
      unfold curB
      cases h4 : k == 4 with
      | true => rw [beq_iff_eq] at h4; subst h4; rfl
      | false => cases h7 : k == 7 <;> simp
    rw [hB0, ih]
    cases h4 : k == 4 with
    | true =>
      simp only [Bool.true_and, cond_true, List.mem_singleton]
      cases hs : B s with
      | true =>
        simp only [Bool.not_true, cond_false, List.not_mem_nil, false_or]
        constructor
        · rintro ⟨h1, h2⟩; exact ⟨.inr h1, h2⟩
        · rintro ⟨h1 | h1, h2⟩
          · rw [h1, hs] at h2; cases h2
          · exact ⟨h1, h2⟩
      | false =>
        simp only [Bool.not_false, cond_true, List.mem_singleton]
        constructor
        · rintro (h | ⟨h1, h2⟩)
          · exact ⟨.inl h, by rw [h]; exact hs⟩
          · exact ⟨.inr h1, h2⟩
        · rintro ⟨h | h, h2⟩
          · exact .inl h
          · exact .inr ⟨h, h2⟩
    | false =>
      simp only [Bool.false_and, cond_false, List.not_mem_nil, false_or]
theorem Exp.freeK_mem (x : ByteArray) (k : Int) (s : ByteArray) (B : ByteArray → Bool) : ∀ (l : List Exp) (i : Nat), x ∈ Exp.freeK (k == 5) (fun x => eqS' x s || B x) l i (curB k s B i) ↔ x ∈ Exp.rfreeK k s l i [] ∧ B x = false
  | [], i => by rw [Exp.freeK, Exp.rfreeK]; simp
  | c :: r, i => by
    rw [Exp.freeK, curB_next, List.mem_append, Exp.free_mem x c, Exp.freeK_mem x k s B r (i + 1), Exp.rfreeK, Exp.rfreeK_mem k s r (i + 1) (List.foldl putR [] _), foldR_mem]
    have hd : decide ((i : Int) > 0) = decide (i + 1 > 1) := by rw [decide_eq_decide]; omega
    rw [hd]
    unfold curB
    cases k == 7 || (k == 5 && decide (i + 1 > 1)) with
    | true =>
      simp only [cond_true, filt, Bool.or_eq_false_iff, List.not_mem_nil, or_false]
      constructor
      · rintro (⟨h1, h2, h3⟩ | ⟨h1, h2⟩)
        · exact ⟨.inl ⟨h1, h2⟩, h3⟩
        · exact ⟨.inr h1, h2⟩
      · rintro ⟨⟨h1, h2⟩ | h1, h3⟩
        · exact .inl ⟨h1, h2, h3⟩
        · exact .inr ⟨h1, h3⟩
    | false =>
      simp only [cond_false, List.not_mem_nil, or_false]
      constructor
      · rintro (⟨h1, h2⟩ | ⟨h1, h2⟩)
        · exact ⟨.inl h1, h2⟩
        · exact ⟨.inr h1, h2⟩
      · rintro ⟨h1 | h1, h3⟩
        · exact .inl ⟨h1, h3⟩
        · exact .inr ⟨h1, h3⟩
end
theorem free_rise (e : Exp) : riseL (e.free fun _ => false) = e.rfree := riseL_eq (Exp.rfree_rise e) fun x => by rw [Exp.free_mem]; simp

/- calls -/
def callsN : List Exp → List ByteArray
  | [] => []
  | x :: r => bif x.k == 13 then x.name :: callsN r else callsN r
theorem callsN_append : ∀ l m : List Exp, callsN (l ++ m) = callsN l ++ callsN m
  | [], m => rfl
  | x :: l, m => by
    rw [List.cons_append, callsN, callsN, callsN_append l m]
    cases x.k == 13 <;> rfl
theorem callW_eq : ∀ l : List Exp, HE.K.callW (l.map fun x => .agg x.cells) = some (callsN l)
  | [] => rfl
  | x :: l => by
    rw [List.map_cons, callsN, Exp.cells_eq, HE.K.callW, callW_eq l]
    rfl
theorem callsN_len : ∀ l : List Exp, (callsN l).length ≤ l.length
  | [] => Nat.le_refl _
  | x :: l => by
    have := callsN_len l
    rw [callsN, List.length_cons]
    cases x.k == 13 with
    | true => rw [cond_true, List.length_cons]; omega
    | false => rw [cond_false]; omega
mutual
theorem Exp.rcalls_mem (x : ByteArray) : ∀ e : Exp, x ∈ callsN e.pre ↔ x ∈ e.rcalls
  | ⟨k, n, s, b, ts, ls, xs⟩ => by
    rw [Exp.pre, Exp.rcalls, callsN, Exp.rcallsK_mem x xs]
    show x ∈ (bif k == 13 then s :: callsN (Exp.preL xs) else callsN (Exp.preL xs)) ↔ _
    cases k == 13 with
    | true => simp
    | false => simp
theorem Exp.rcallsK_mem (x : ByteArray) : ∀ (l : List Exp) (out : List ByteArray), x ∈ Exp.rcallsK l out ↔ x ∈ out ∨ x ∈ callsN (Exp.preL l)
  | [], out => by rw [Exp.rcallsK, Exp.preL]; simp [callsN]
  | c :: r, out => by
    rw [Exp.rcallsK, Exp.rcallsK_mem x r, foldR_mem, ← Exp.rcalls_mem x c, Exp.preL, callsN_append, List.mem_append]
    constructor
    · rintro ((h | h) | h)
      · exact .inr (.inl h)
      · exact .inl h
      · exact .inr (.inr h)
    · rintro (h | h | h)
      · exact .inl (.inr h)
      · exact .inl (.inl h)
      · exact .inr h
end
theorem calls_rise (e : Exp) : riseL (callsN e.pre) = e.rcalls := riseL_eq (Exp.rcalls_rise e) fun x => Exp.rcalls_mem x e

/- the program's -/
theorem Exp.ok_small : ∀ e : Exp, e.Ok → e.small = true := by
  have key : ∀ n : Nat, ∀ e : Exp, SizeOf.sizeOf e < n → e.Ok → e.small = true := by
    intro n
    induction n with
    | zero => intro e h; omega
    | succ n ih =>
      intro e h ok
      have hl : ∀ l : List Exp, (∀ x ∈ l, x.small = true) → Exp.smallL l = true := by
        intro l
        induction l with
        | nil => intro _; rfl
        | cons x r ihl => intro hx; rw [Exp.smallL, hx x List.mem_cons_self, ihl fun y hy => hx y (List.mem_cons_of_mem _ hy)]; rfl
      rw [Exp.small_eq, show Nat.ble e.kids.length 9223372036854775807 = true from by rw [Nat.ble_eq]; exact ok.len, Bool.true_and]
      refine hl _ fun x hx => ih x ?_ (ok.kid hx)
      obtain ⟨i, hi, rfl⟩ := List.mem_iff_getElem.1 hx
      have := Exp.size_kid hi
      omega
  exact fun e ok => key _ e (Nat.lt_succ_self _) ok
mutual
theorem Exp.free_len : ∀ (e : Exp) (B : ByteArray → Bool), (e.free B).length ≤ e.pre.length
  | ⟨k, n, s, b, ts, ls, xs⟩, B => by
    rw [Exp.free, Exp.pre, List.length_append, List.length_cons]
    have h1 := Exp.freeK_len (k == 5) (fun x => eqS' x s || B x) xs 0 (bif k == 4 then B else bif k == 7 then (fun x => eqS' x s || B x) else B)
    have h2 : (bif k == 4 && !B s then [s] else []).length ≤ 1 := by cases k == 4 && !B s <;> simp
    omega
theorem Exp.freeK_len (lt : Bool) (B' : ByteArray → Bool) : ∀ (l : List Exp) (i : Nat) (B : ByteArray → Bool), (Exp.freeK lt B' l i B).length ≤ (Exp.preL l).length
  | [], i, B => by rw [Exp.freeK]; exact Nat.zero_le _
  | c :: r, i, B => by
    rw [Exp.freeK, Exp.preL, List.length_append, List.length_append]
    have h1 := Exp.free_len c (bif lt && Nat.beq i 1 then B' else B)
    have h2 := Exp.freeK_len lt B' r (i + 1) (bif lt && Nat.beq i 1 then B' else B)
    omega
end
theorem free22 (e : Exp) (ok : e.Ok) (hv : expsN e.pre ≤ 1048576) (h : Heap) : evw E 22 [.agg e.cells] h = some (.ret (.sl 1 (e.rfree.map strC)), h) := by
  refine evw_prim primsC (p := p22) (by rfl) ?_
  have h1 := expsN_len e.pre
  have h2 := Exp.free_len e fun _ => false
  have hm : maxApp = 2147483648 := rfl
  show (decX e.cells).bind _ = _
  rw [decX_cells, bind_some', Exp.ok_small e ok, show Nat.ble (e.free fun _ => false).length maxApp = true from by rw [Nat.ble_eq]; omega, Bool.and_self, condT, free_rise]
theorem calls24 (e : Exp) (ok : e.Ok) (hv : expsN e.pre ≤ 1048576) (h : Heap) : evw E 24 [.agg e.cells] h = some (.ret (.sl 1 (e.rcalls.map strC)), h) := by
  refine evw_prim primsC (p := p24) (by rfl) ?_
  have h1 := expsN_len e.pre
  have h2 := callsN_len e.pre
  have hm : maxApp = 2147483648 := rfl
  show (HE.preC e.cells).bind _ = _
  rw [Exp.preC_ok e ok, bind_some', callW_eq, bind_some', Exp.ltL, show Nat.ble (callsN e.pre).length maxApp = true from by rw [Nat.ble_eq]; omega, Bool.and_self, condT, calls_rise]

theorem wf_i64 {k : Int} (h : (Lit.int .i64 k).wf = true) : -9223372036854775808 ≤ k ∧ k ≤ 9223372036854775807 := by
  have h : (IntKind.i64.min ≤ k && k ≤ IntKind.i64.max) = true := h
  rw [Bool.and_eq_true, decide_eq_true_eq, decide_eq_true_eq] at h
  exact h
theorem at_ok {e : Exp} (ok : e.Ok) (k : Int) : ((e.at k).getD zeroE).Ok := by
  unfold Exp.at
  by_cases hk : 0 < k
  · rw [if_pos hk]
    cases h : e.pre[(k - 1).toNat]? with
    | none => exact zeroE_ok
    | some x => exact Exp.pre_ok ok x (List.mem_of_getElem? h)
  · rw [if_neg hk]; exact zeroE_ok
theorem expTells_row (e : Exp) (ok : e.Ok) (k : Int) (hk : (Lit.int .i64 k).wf = true) (hv : volC e.cells ≤ 1048576) (_ : List Nat) : evw E 4 [.agg e.cells, .lit (.int .i64 k)] [] = some (.ret (.lit (.bool true)), []) := by
  have hN := Nat.le_trans e.pre_vol hv
  have hlen := expsN_len e.pre
  have hL1 := Exp.rfree_len e
  have hL2 := Exp.rcalls_len e
  have hm : maxLen = 9223372036854775807 := rfl
  obtain ⟨k1, k2⟩ := wf_i64 hk
  refine evw_run primsC 0 rfl rfl rfl ?_
  rw [nf4, aggS, bind_some', Exp.cells_len, b7, condT]
  simp only [Exp.re]
  rw [much7 _ _ ok, onOut_ret, bin_int, gtrI, bind_some', boolB, bind_some']
  refine cond_split (fun h1 => by rw [awake9, onOut_ret]) (fun h1 => ?_)
  rw [at11 e ok hN, onOut_ret, tupS, bind_some', t0, bind_some', bind_some', t1, bind_some', aggS, bind_some', Exp.cells_len, b7, condT, at14 e k _ ok hN k1 k2, onOut_ret, tupS, bind_some', t0, bind_some', bind_some', t1, bind_some', aggS, bind_some', Exp.cells_len, b7, condT]
  simp only [Exp.re]
  simp only [right8 _ _ ok, right15 _ _ ok, nodes12 e ok hN, nodes16 _ _ ok hN, deep17 _ _ ok, deep18 _ _ ok, count10 e ok hN, count19 _ _ ok hN, same20 _ _ _ (at_ok ok k), free22 e ok hN, free23 _ _ ok (Nat.le_trans hlen hN), calls24 e ok hN, calls25 _ _ ok (Nat.le_trans hlen hN),
    same79e e.rfree e.rfree (by omega), same79e e.rcalls e.rcalls (by omega), onOut_ret, eqB, bin_int, eqlI, int_eqd, eqd_self, bind_some', boolB, condT, awake9]
end Go.Sh.T

/- What a row leans on. -/
namespace Go.Sh.T
open Go Go.Sh Go.Proofs
set_option linter.unusedSimpArgs false
set_option linter.unusedVariables false
theorem int_of' {vs : List AV} (h : TypedC E 3 vs) : ∃ n, vs = [.lit (.int .i64 n)] ∧ (Lit.int .i64 n).wf = true := int_of h ty3
def flatTs : List Nat := [3, 4, 9, 22, 23, 24, 26, 34, 39, 41, 43, 82]
theorem flatTs_ok : flatAll E flatTs = true := by kernel_rfl

mutual
theorem dsz_le {H : Type} : ∀ d : DataW H, dsz d ≤ Ythpnngodkjjmoaa.Rows.uptoBulk d
  | .lit l => by cases l <;> simp [dsz, Ythpnngodkjjmoaa.Rows.uptoBulk]
  | .nil => by simp [dsz, Ythpnngodkjjmoaa.Rows.uptoBulk]
  | .ptr d => by simp [dsz, Ythpnngodkjjmoaa.Rows.uptoBulk]
  | .slice e s => by have := dszL_le e; simp only [dsz, Ythpnngodkjjmoaa.Rows.uptoBulk]; omega
  | .agg p => by have := dszL_le p; simp only [dsz, Ythpnngodkjjmoaa.Rows.uptoBulk]; omega
  | .iface _ d => by simp [dsz, Ythpnngodkjjmoaa.Rows.uptoBulk]
  | .map _ => by simp [dsz, Ythpnngodkjjmoaa.Rows.uptoBulk]
  | .held _ => by simp [dsz, Ythpnngodkjjmoaa.Rows.uptoBulk]
theorem dszL_le {H : Type} : ∀ l : List (DataW H), dszL l ≤ Ythpnngodkjjmoaa.Rows.uptoBulkAll l
  | [] => by simp [dszL, Ythpnngodkjjmoaa.Rows.uptoBulkAll]
  | d :: r => by have := dsz_le d; have := dszL_le r; simp only [dszL, Ythpnngodkjjmoaa.Rows.uptoBulkAll]; omega
end
end Go.Sh.T
