/- ExE: part of the proof: a shadow of the machine that is proved sound, and what the functions of this seat compute. Conditions: none. -/
import Derived.Test.YthpnngodkjjmoaaExC
import Derived.Test.YthpnngodkjjmoaaExU
import Derived.Sort.Walk0
import Derived.Test.YthpnngodkjjmoaaShB
import Derived.Test.YthpnngodkjjmoaaRows
set_option linter.unusedSimpArgs false
/- The document's Right is the program's. -/
namespace Go.Sh.T
open Go Go.Sh
set_option linter.unusedSimpArgs false
set_option linter.unusedVariables false
set_option maxRecDepth 100000
theorem types83 (l : List Ty) (hl : l.length ≤ maxLen) (ol : ∀ a ∈ l, a.Ok) (h : Heap) : evw E 83 [.sl 5 (l.map Ty.cells)] h = some (.ret (.lit (.bool (l.all fineB))), h) := by
  have hl : l.length ≤ 9223372036854775807 := hl
  have loop : ∀ (q i : Nat), i ≤ l.length → l.length < q + i → Lp83_0 (evw E) (l.length + 1) h q h (.sl 5 (l.map Ty.cells)) (.lit (.int .i64 (i : Int))) = some (.ret (.lit (.bool ((l.drop i).all fineB))), h) := by
    intro q
    induction q with
    | zero => intro i h1 h2; omega
    | succ q ih =>
      intro i h1 h2
      rw [Lp83_0_succ, lenA22, bind_some', List.length_map, bin_int, lssI, bind_some', boolB, bind_some']
      by_cases hi : i < l.length
      · have oi := ol _ (List.getElem_mem hi)
        simp only [ltT hi, condT, indexA_map _ _ _ _ hi, bind_some', partA_full (Ty.cells_len _), right_spec _ _ oi, has_spec _ _ _ oi, onOut_ret, notB, boolB, bin_int, addI]
        rw [List.drop_eq_getElem_cons hi, List.all_cons, incI (by omega), ih (i + 1) hi (by omega)]
        unfold fineB
        cases (l[i]).right <;> cases (l[i]).has 9 <;> rfl
      · rw [ltF hi, condF, List.drop_of_length_le (by omega)]; rfl
  refine evw_run primsC (l.length + 1) rfl rfl rfl ?_
  rw [nf83]
  have := loop (l.length + 1) 0 (Nat.zero_le _) (by omega)
  rw [List.drop_zero] at this
  exact this
def shp (k : Int) (b : Bool) (m : Int) : Int × Int × Int × Int :=
  bif k == 5 then (0, 1, 2, 2) else bif k == 6 then (0, 0, 3, 3) else bif k == 7 then (0, 1, 1, 1) else bif k == 8 || k == 11 then (0, 0, 2, 2) else bif k == 9 then (0, 0, m, m) else bif k == 10 then (0, 0, 1, 1) else bif k == 12 then (1, 1, 1, 1) else bif k == 13 then (bif b then (1, 3, 0, 4) else (0, 0, 0, 4)) else (0, 0, 0, 0)
theorem shape82 (e : Exp) (h : Heap) : evw E 82 [.agg e.cells] h = some (.ret (.tup [.lit (.int .i64 (shp e.k e.has e.labels.length).1), .lit (.int .i64 (shp e.k e.has e.labels.length).2.1), .lit (.int .i64 (shp e.k e.has e.labels.length).2.2.1), .lit (.int .i64 (shp e.k e.has e.labels.length).2.2.2)]), h) := by
  obtain ⟨k, n, s, b, ts, ls, xs⟩ := e
  refine evw_run primsC 0 rfl rfl rfl ?_
  rw [nf82, aggS, bind_some', Exp.cells_len, b7, condT, Exp.c0, Exp.c3, Exp.c5]
  simp only [bin_int, eqlI, bind_some', boolB, lenA23, List.length_map]
  unfold shp
  generalize hm : (ls.length : Int) = m
  rcases k13 k with e | e | e | e | e | e | e | e | e | e | e | e | e | ⟨e1, e2, e3, e4, e5, e6, e7, e8, e9, e10, e11, e12, e13⟩
  all_goals first | (subst e; first | rfl | (cases b <;> rfl)) | (simp only [e1, e2, e3, e4, e5, e6, e7, e8, e9, e10, e11, e12, e13]; rfl)
def r5 (e : Exp) : Bool := decide ((e.types.length : Int) ≥ (shp e.k e.has e.labels.length).1) && (decide ((e.types.length : Int) ≤ (shp e.k e.has e.labels.length).2.1) && (decide ((e.kids.length : Int) ≥ (shp e.k e.has e.labels.length).2.2.1) && (decide ((e.kids.length : Int) ≤ (shp e.k e.has e.labels.length).2.2.2) && e.types.all fineB)))
def r4 (e : Exp) : Bool := !(e.k != 9 && decide ((e.labels.length : Int) > 0)) && (risingR e.labels none && (!decide ((e.labels.length : Int) > 6) && r5 e))
def r3 (e : Exp) : Bool := !((e.k != 1 && e.k != 2 && e.k != 11 && e.n != 0) || (e.k != 13 && e.has)) && r4 e
def r2 (e : Exp) : Bool := !((e.k == 1 && decide (e.n < 0)) || (e.k == 2 && (e.n != 0 && e.n != 1)) || (e.k == 11 && (decide (e.n < 1) || decide (e.n > 7)))) && r3 e
def r1 (e : Exp) (nm : Bool) : Bool := !((nm && !(kindR e.name == 1)) || (!nm && (e.k != 3 && !emptyS e.name)) || (e.k == 3 && decide ((e.name.size : Int) > 40))) && r2 e
def r0 (e : Exp) : Bool := r1 e (e.k == 4 || e.k == 5 || e.k == 7 || e.k == 10 || e.k == 13)
section
variable (e : Exp) (ok : e.Ok) (h : Heap)
theorem tt0 (a b c d : AV) : [a, b, c, d][0]? = some a := rfl
theorem tt1 (a b c d : AV) : [a, b, c, d][1]? = some b := rfl
theorem tt2 (a b c d : AV) : [a, b, c, d][2]? = some c := rfl
theorem tt3 (a b c d : AV) : [a, b, c, d][3]? = some d := rfl
abbrev Sx (S : AV → AV → AV → AV → AV → AV → AV → AV → R) (e : Exp) (b : Bool) : R := S (.lit (.int .i64 e.k)) (.lit (.int .i64 e.n)) (.lit (.string e.name)) (.lit (.bool e.has)) (.sl 5 (e.types.map Ty.cells)) (.sl 1 (e.labels.map strC)) (.sl 7 (e.kids.map Exp.cells)) (.lit (.bool b))
include ok in
theorem sq5 (b : Bool) : Sx (Sq46_5 (evw E) 1 h h) e b = some (.ret (.lit (.bool (!b && r5 e))), h) := by
  unfold Sx
  rw [Sq46_5_eq, gate_succ, boolB, bind_some', Exp.refold]
  cases b with
  | true => rfl
  | false =>
    simp only [condF, shape82, onOut_ret, tupS, bind_some', tt0, tt1, tt2, tt3, lenA22, lenA24, List.length_map, bin_int, geqI, leqI, boolB, types83 _ ok.tlen (fun a ha => ok.ty ha), Sq46_6_eq, gate_succ, Bool.not_false, Bool.true_and]
    unfold r5
    cases decide ((e.types.length : Int) ≥ (shp e.k e.has e.labels.length).1) <;> cases decide ((e.types.length : Int) ≤ (shp e.k e.has e.labels.length).2.1) <;> cases decide ((e.kids.length : Int) ≥ (shp e.k e.has e.labels.length).2.2.1) <;> cases decide ((e.kids.length : Int) ≤ (shp e.k e.has e.labels.length).2.2.2) <;> rfl
include ok in
theorem sq4 (b : Bool) : Sx (Sq46_4 (evw E) 1 h h) e b = some (.ret (.lit (.bool (!b && r4 e))), h) := by
  unfold Sx
  rw [Sq46_4_eq, gate_succ, boolB, bind_some']
  cases b with
  | true => rfl
  | false =>
    have s5 := sq5 e ok h
    unfold Sx at s5
    simp only [condF, bin_int, neqI, bind_some', boolB, lenA23, List.length_map, gtrI, rising_spec _ ok.lab, onOut_ret, notB, s5, Bool.not_false, Bool.true_and]
    unfold r4
    cases e.k != 9 <;> cases decide ((e.labels.length : Int) > 0) <;> cases risingR e.labels none <;> cases decide ((e.labels.length : Int) > 6) <;> rfl
include ok in
theorem sq3 (b : Bool) : Sx (Sq46_3 (evw E) 1 h h) e b = some (.ret (.lit (.bool (!b && r3 e))), h) := by
  unfold Sx
  rw [Sq46_3_eq, gate_succ, boolB, bind_some']
  cases b with
  | true => rfl
  | false =>
    have s5 := sq4 e ok h
    unfold Sx at s5
    simp only [condF, bin_int, neqI, bind_some', boolB, s5, Bool.not_false, Bool.true_and]
    unfold r3
    cases e.k != 1 <;> cases e.k != 2 <;> cases e.k != 11 <;> cases e.n != 0 <;> cases e.k != 13 <;> cases e.has <;> rfl
include ok in
theorem sq2 (b : Bool) : Sx (Sq46_2 (evw E) 1 h h) e b = some (.ret (.lit (.bool (!b && r2 e))), h) := by
  unfold Sx
  rw [Sq46_2_eq, gate_succ, boolB, bind_some']
  cases b with
  | true => rfl
  | false =>
    have s5 := sq3 e ok h
    unfold Sx at s5
    simp only [condF, bin_int, neqI, eqlI, lssI, gtrI, bind_some', boolB, s5, Bool.not_false, Bool.true_and]
    unfold r2
    cases e.k == 1 <;> cases e.k == 2 <;> cases e.k == 11 <;> cases e.n != 0 <;> cases e.n != 1 <;> cases decide (e.n < 0) <;> cases decide (e.n < 1) <;> cases decide (e.n > 7) <;> rfl
include ok in
theorem sq1 (b : Bool) : Sx (Sq46_1 (evw E) 1 h h) e b = some (.ret (.lit (.bool (r1 e b))), h) := by
  unfold Sx
  rw [Sq46_1_eq, gate_succ, boolB, bind_some']
  have s5 := sq2 e ok h
  unfold Sx at s5
  have hE : ∀ s : ByteArray, binAV E .neq 9 (.lit (.string s)) (.lit (.string ByteArray.empty)) = some (.lit (.bool (!emptyS s))) := fun s => (Eq.refl _).trans rfl
  simp only [bin_int, neqI, eqlI, lssI, gtrI, bind_some', boolB, notB, fine_spec, onOut_ret, lenS, hE, s5]
  unfold r1
  cases b <;> cases kindR e.name == 1 <;> cases e.k == 3 <;> cases e.k != 3 <;> cases emptyS e.name <;> cases decide ((e.name.size : Int) > 40) <;> rfl
include ok in
theorem sq0 (b : Bool) : Sx (Sq46_0 (evw E) 1 h h) e b = some (.ret (.lit (.bool (!b && r0 e))), h) := by
  unfold Sx
  rw [Sq46_0_eq, gate_succ, boolB, bind_some']
  cases b with
  | true => rfl
  | false =>
    have s5 := sq1 e ok h
    unfold Sx at s5
    simp only [condF, bin_int, neqI, eqlI, lssI, gtrI, bind_some', boolB, s5, Bool.not_false, Bool.true_and]
    unfold r0
    cases e.k == 4 <;> cases e.k == 5 <;> cases e.k == 7 <;> cases e.k == 10 <;> cases e.k == 13 <;> rfl
include ok in
theorem own46' : evw E 46 [.agg e.cells] h = some (.ret (.lit (.bool (!(decide (e.k < 1) || decide (e.k > 13)) && r0 e))), h) := by
  refine evw_run primsC 1 rfl rfl rfl ?_
  have s5 := sq0 e ok h
  unfold Sx at s5
  rw [nf46, aggS, bind_some', Exp.cells_len, b7, condT, Exp.c0, Exp.c1, Exp.c2, Exp.c3, Exp.c4, Exp.c5, Exp.c6]
  simp only [bin_int, lssI, gtrI, bind_some', boolB, s5]
  cases decide (e.k < 1) <;> cases decide (e.k > 13) <;> rfl
end
end Go.Sh.T

/- Right, Count, At, Nodes, Depth: the document's and the program's. -/
namespace Go.Sh.T
open Go Go.Sh
set_option linter.unusedSimpArgs false
set_option linter.unusedVariables false
set_option maxRecDepth 100000
theorem own_eq (e : Exp) : (!(decide (e.k < 1) || decide (e.k > 13)) && r0 e) = ownB e := by
  obtain ⟨k, n, s, b, ts, ls, xs⟩ := e
  have hR0 : (ls.length : Int) = 0 → risingR ls none = true := fun h => by
    have : ls = [] := List.length_eq_zero_iff.1 (by omega)
    rw [this, risingR]
  unfold r0 r1 r2 r3 r4 r5 ownB wordB numB typB bearB shp
  simp only
  have hT : (0 : Int) ≤ (ts.length : Int) := by omega
  have hK : (0 : Int) ≤ (xs.length : Int) := by omega
  have hL : (0 : Int) ≤ (ls.length : Int) := by omega
  have hS : (0 : Int) ≤ (s.size : Int) := by omega
  revert hR0 hT hK hL hS
  generalize (ts.length : Int) = T
  generalize (xs.length : Int) = K
  generalize (ls.length : Int) = L
  generalize (s.size : Int) = Z
  generalize (kindR s == 1) = F
  generalize emptyS s = Em
  generalize risingR ls none = Rr
  generalize ts.all fineB = Aa
  intro hR0 hT hK hL hS
  rw [Bool.eq_iff_iff]
  rcases k13 k with e | e | e | e | e | e | e | e | e | e | e | e | e | ⟨e1, e2, e3, e4, e5, e6, e7, e8, e9, e10, e11, e12, e13⟩
  iterate 13
    · subst e
      simp only [Int.reduceBEq, Int.reduceBNe, Int.reduceLT, Int.reduceGT, decide_true, decide_false, Bool.true_and, Bool.and_true, Bool.false_and, Bool.and_false, Bool.true_or, Bool.or_true, Bool.false_or, Bool.or_false, Bool.not_true, Bool.not_false, cond_true, cond_false, Bool.and_eq_true, Bool.or_eq_true, Bool.not_eq_true', Bool.and_eq_false_iff, Bool.or_eq_false_iff, decide_eq_true_eq, decide_eq_false_iff_not, beq_iff_eq, bne_iff_ne, beq_eq_false_iff_ne, bne_eq_false_iff_eq, ne_eq, Bool.not_eq_false']
      cases F <;> cases Em <;> cases Rr <;> cases Aa <;> cases b <;> simp at hR0 ⊢ <;> omega
  · have hne : ∀ c : Int, (k == c) = false → (k != c) = true := fun c h => by unfold bne; rw [h]; rfl
    have hk : ¬ (1 ≤ k ∧ k ≤ 13) := by
      simp only [beq_eq_false_iff_ne, ne_eq] at e1 e2 e3 e4 e5 e6 e7 e8 e9 e10 e11 e12 e13
      omega
    simp only [e1, e2, e3, e4, e5, e6, e7, e8, e9, e10, e11, e12, e13]
    have : (decide (k < 1) || decide (k > 13)) = true := by
      rw [Bool.or_eq_true, decide_eq_true_eq, decide_eq_true_eq]; omega
    rw [this]
    simp
theorem own46 (e : Exp) (ok : e.Ok) (h : Heap) : evw E 46 [.agg e.cells] h = some (.ret (.lit (.bool (ownB e))), h) := by rw [own46' e ok h, own_eq]
theorem right15 : ∀ (e : Exp) (h : Heap), e.Ok → evw E 15 [.agg e.cells] h = some (.ret (.lit (.bool e.right)), h)
  | e, h, ok => by
    have hlen : e.kids.length ≤ 9223372036854775807 := ok.len
    have loop : ∀ (x0 x1 x2 x3 x4 x5 : AV) (q i : Nat), i ≤ e.kids.length → e.kids.length < q + i → Lp15_0 (evw E) (e.kids.length + 1) h q h x0 x1 x2 x3 x4 x5 (.sl 7 (e.kids.map Exp.cells)) (.lit (.int .i64 (i : Int))) = some (.ret (.lit (.bool ((e.kids.drop i).all Exp.right))), h) := by
      intro x0 x1 x2 x3 x4 x5 q
      induction q with
      | zero => intro i h1 h2; omega
      | succ q ih =>
        intro i h1 h2
        rw [Lp15_0_succ, lenA24, bind_some', List.length_map, bin_int, lssI, bind_some', boolB, bind_some']
        by_cases hi : i < e.kids.length
        · have hrec := right15 (e.kids[i]) h (ok.kid (List.getElem_mem hi))
          rw [ltT hi, condT, indexA_map _ _ _ _ hi, bind_some', partA_full (Exp.cells_len _), bind_some', hrec, onOut_ret, notB, bind_some', boolB, bind_some', List.drop_eq_getElem_cons hi, List.all_cons]
          cases (e.kids[i]).right with
          | false => rfl
          | true => rw [Bool.not_true, condF, bin_int, addI, bind_some', incI (by omega), ih (i + 1) hi (by omega)]; rfl
        · rw [ltF hi, condF, List.drop_of_length_le (by omega)]; rfl
    refine evw_run primsC (e.kids.length + 1) rfl rfl rfl ?_
    rw [nf15, aggS, bind_some', Exp.cells_len, b7, condT, Exp.re, own46 e ok, onOut_ret, notB, bind_some', boolB, bind_some', Exp.right_eq]
    cases ownB e with
    | false => rfl
    | true =>
      have := loop (.lit (.int .i64 e.k)) (.lit (.int .i64 e.n)) (.lit (.string e.name)) (.lit (.bool e.has)) (.sl 5 (e.types.map Ty.cells)) (.sl 1 (e.labels.map strC)) (e.kids.length + 1) 0 (Nat.zero_le _) (by omega)
      rw [List.drop_zero] at this
      rw [Bool.not_true, condF, Exp.c0, Exp.c1, Exp.c2, Exp.c3, Exp.c4, Exp.c5, Exp.c6]
      exact this
  termination_by e => SizeOf.sizeOf e
  decreasing_by exact Exp.size_kid hi

/- Count and Nodes by definition -/
theorem Exp.preL_take (l : List Exp) (i : Nat) (hi : i < l.length) : Exp.preL (l.drop i) = (l[i]).pre ++ Exp.preL (l.drop (i + 1)) := by rw [List.drop_eq_getElem_cons hi, Exp.preL_cons]
theorem Exp.kid_N {e : Exp} (i : Nat) (hi : i < e.kids.length) : expsN (e.kids[i]).pre ≤ expsN (Exp.preL e.kids) := by
  have key : ∀ (l : List Exp) (x : Exp), x ∈ l → expsN x.pre ≤ expsN (Exp.preL l) := by
    intro l
    induction l with
    | nil => intro x hx; cases hx
    | cons y r ih =>
      intro x hx
      rw [Exp.preL_cons, expsN_append]
      rcases List.mem_cons.1 hx with e | e
      · rw [e]; omega
      · have := ih x e; omega
  exact key _ _ (List.getElem_mem hi)
theorem nodes16 : ∀ (e : Exp) (h : Heap), e.Ok → expsN e.pre ≤ 1048576 → evw E 16 [.agg e.cells] h = some (.ret (.lit (.int .i64 (expsN e.pre : Int))), h)
  | e, h, ok, hv => by
    have hlen : e.kids.length ≤ 9223372036854775807 := ok.len
    have htl : e.types.length ≤ 9223372036854775807 := ok.tlen
    have hv' := hv
    rw [Exp.pre_eq, expsN] at hv'
    obtain ⟨N, hN⟩ : ∃ N, N = e.kids.length + e.types.length + 1 := ⟨_, rfl⟩
    have loop1 : ∀ (x0 x1 x2 x3 x4 x5 : AV) (q i : Nat) (acc : Nat), i ≤ e.kids.length → e.kids.length < q + i → acc + expsN (Exp.preL (e.kids.drop i)) ≤ 1048577 → Lp16_1 (evw E) N h q h x0 x1 x2 x3 x4 x5 (.sl 7 (e.kids.map Exp.cells)) (.lit (.int .i64 (acc : Int))) (.lit (.int .i64 (i : Int))) = some (.ret (.lit (.int .i64 ((acc + expsN (Exp.preL (e.kids.drop i)) : Nat) : Int))), h) := by
      intro x0 x1 x2 x3 x4 x5 q
      induction q with
      | zero => intro i acc h1 h2; omega
      | succ q ih =>
        intro i acc h1 h2 h3
        rw [Lp16_1_succ, lenA24, bind_some', List.length_map, bin_int, lssI, bind_some', boolB, bind_some']
        by_cases hi : i < e.kids.length
        · have hk := Exp.kid_N i hi
          have hrec := nodes16 (e.kids[i]) h (ok.kid (List.getElem_mem hi)) (by omega)
          rw [Exp.preL_take _ _ hi, expsN_append] at h3
          rw [ltT hi, condT, indexA_map _ _ _ _ hi, bind_some', partA_full (Exp.cells_len _), bind_some', hrec, onOut_ret, bin_int, addI, bind_some', bin_int, addI, bind_some', incI (by omega), show add64 (acc : Int) (expsN (e.kids[i]).pre : Int) = ((acc + expsN (e.kids[i]).pre : Nat) : Int) from by unfold add64; rw [IntWalk.i64_in _ (by omega)]; omega,
            ih (i + 1) _ hi (by omega) (by omega), Exp.preL_take _ _ hi, expsN_append, Nat.add_assoc]
        · rw [ltF hi, condF, List.drop_of_length_le (by omega), Exp.preL_nil]; rfl
    have loop0 : ∀ (x0 x1 x2 x3 x5 : AV) (q i : Nat) (acc : Nat), i ≤ e.types.length → e.types.length < q + i → acc + tysN (e.types.drop i) + expsN (Exp.preL e.kids) ≤ 1048577 → Lp16_0 (evw E) N h q h x0 x1 x2 x3 (.sl 5 (e.types.map Ty.cells)) x5 (.sl 7 (e.kids.map Exp.cells)) (.lit (.int .i64 (acc : Int))) (.lit (.int .i64 (i : Int))) = some (.ret (.lit (.int .i64 ((acc + tysN (e.types.drop i) + expsN (Exp.preL e.kids) : Nat) : Int))), h) := by
      intro x0 x1 x2 x3 x5 q
      have fin := fun acc hh => loop1 x0 x1 x2 x3 (.sl 5 (e.types.map Ty.cells)) x5 N 0 acc (Nat.zero_le _) (by omega) hh
      rw [List.drop_zero] at fin
      induction q with
      | zero => intro i acc h1 h2; omega
      | succ q ih =>
        intro i acc h1 h2 h3
        rw [Lp16_0_succ, lenA22, bind_some', List.length_map, bin_int, lssI, bind_some', boolB, bind_some']
        by_cases hi : i < e.types.length
        · rw [List.drop_eq_getElem_cons hi, tysN] at h3
          rw [ltT hi, condT, indexA_map _ _ _ _ hi, bind_some', partA_full (Ty.cells_len _), bind_some', nodes_spec _ _ (ok.ty (List.getElem_mem hi)), onOut_ret, Ty.nodes_pre _ (by omega), bin_int, addI, bind_some', bin_int, addI, bind_some', incI (by omega), show add64 (acc : Int) ((e.types[i]).pre.length : Int) = ((acc + (e.types[i]).pre.length : Nat) : Int) from by unfold add64; rw [IntWalk.i64_in _ (by omega)]; omega,
            ih (i + 1) _ hi (by omega) (by omega), List.drop_eq_getElem_cons hi, tysN, Nat.add_assoc acc]
        · rw [List.drop_of_length_le (show e.types.length ≤ i by omega), tysN] at h3 ⊢
          rw [ltF hi, condF]
          exact fin acc (by omega)
    refine evw_run primsC N rfl rfl rfl ?_
    rw [nf16, aggS, bind_some', Exp.cells_len, b7, condT, Exp.c0, Exp.c1, Exp.c2, Exp.c3, Exp.c4, Exp.c5, Exp.c6]
    have := loop0 (.lit (.int .i64 e.k)) (.lit (.int .i64 e.n)) (.lit (.string e.name)) (.lit (.bool e.has)) (.sl 1 (e.labels.map strC)) N 0 1 (Nat.zero_le _) (by omega) (by rw [List.drop_zero]; omega)
    rw [List.drop_zero] at this
    rw [Exp.pre_eq, expsN]
    exact this
  termination_by e => SizeOf.sizeOf e
  decreasing_by exact Exp.size_kid hi
end Go.Sh.T

/- Depth and At: the document's and the program's. -/
namespace Go.Sh.T
open Go Go.Sh
set_option linter.unusedSimpArgs false
set_option linter.unusedVariables false
set_option maxRecDepth 100000
def mx (x y : Int) : Int := if y > x then y else x
theorem maxs1 (x y : Int) : maxs (.lit (.int .i64 x)) [.lit (.int .i64 y)] = some (.lit (.int .i64 (mx x y))) := (Eq.refl _).trans rfl
mutual
def Ty.deep : Ty → Int
  | ⟨_, _, _, _, xs⟩ => add64 (Ty.deepL 0 xs) 1
def Ty.deepL (acc : Int) : List Ty → Int
  | [] => acc
  | t :: r => Ty.deepL (mx acc t.deep) r
end
theorem Ty.deep_eq (t : Ty) : t.deep = add64 (Ty.deepL 0 t.args) 1 := by cases t; rw [Ty.deep]
mutual
def Exp.deep : Exp → Int
  | ⟨_, _, _, _, ts, _, xs⟩ => add64 (Exp.deepL (Ty.deepL 0 ts) xs) 1
def Exp.deepL (acc : Int) : List Exp → Int
  | [] => acc
  | t :: r => Exp.deepL (mx acc t.deep) r
end
theorem Exp.deep_eq (t : Exp) : t.deep = add64 (Exp.deepL (Ty.deepL 0 t.types) t.kids) 1 := by cases t; rw [Exp.deep]
theorem deep47 : ∀ (t : Ty) (h : Heap), t.Ok → evw E 47 [.agg t.cells] h = some (.ret (.lit (.int .i64 t.deep)), h)
  | t, h, ok => by
    have hlen := ok.len
    have loop : ∀ (q i : Nat) (acc : Int), i ≤ t.args.length → t.args.length < q + i → Lp47_0 (evw E) (t.args.length + 1) h q h (.lit (.int .i64 acc)) (.sl 5 (t.args.map Ty.cells)) (.lit (.int .i64 (t.args.length : Int))) (.lit (.int .i64 (i : Int))) = some (.ret (.lit (.int .i64 (add64 (Ty.deepL acc (t.args.drop i)) 1))), h) := by
      intro q
      induction q with
      | zero => intro i acc h1 h2; omega
      | succ q ih =>
        intro i acc h1 h2
        rw [Lp47_0_succ, bin_int, lssI, bind_some', boolB, bind_some']
        by_cases hi : i < t.args.length
        · have hrec := deep47 (t.args[i]) h (ok.arg (List.getElem_mem hi))
          rw [ltT hi, condT, indexA_map _ _ _ _ hi, bind_some', partA_full (Ty.cells_len _), bind_some', aggS, bind_some', Ty.cells_len, b5, condT, Ty.refold, hrec, onOut_ret, maxs1, bind_some', bin_int, addI, bind_some', incI (by omega), ih (i + 1) _ hi (by omega), List.drop_eq_getElem_cons hi, Ty.deepL]
        · rw [ltF hi, condF, List.drop_of_length_le (by omega), Ty.deepL, bin_int, addI, bind_some']
    refine evw_run primsC (t.args.length + 1) rfl rfl rfl ?_
    rw [nf47, aggS, bind_some', Ty.cells_len, b5, condT, Ty.c4, lenA22, bind_some', List.length_map, Ty.deep_eq]
    have := loop (t.args.length + 1) 0 0 (Nat.zero_le _) (by omega)
    rw [List.drop_zero] at this
    exact this
  termination_by t => SizeOf.sizeOf t
  decreasing_by exact Ty.size_arg hi
theorem deep48 : ∀ (t : Ty) (h : Heap), t.Ok → evw E 48 [.agg t.cells] h = some (.ret (.lit (.int .i64 t.deep)), h)
  | t, h, ok => by
    have hlen := ok.len
    have loop : ∀ (x0 x1 x2 x3 : AV) (q i : Nat) (acc : Int), i ≤ t.args.length → t.args.length < q + i → Lp48_0 (evw E) (t.args.length + 1) h q h x0 x1 x2 x3 (.sl 5 (t.args.map Ty.cells)) (.lit (.int .i64 acc)) (.lit (.int .i64 (i : Int))) = some (.ret (.lit (.int .i64 (add64 (Ty.deepL acc (t.args.drop i)) 1))), h) := by
      intro x0 x1 x2 x3 q
      induction q with
      | zero => intro i acc h1 h2; omega
      | succ q ih =>
        intro i acc h1 h2
        rw [Lp48_0_succ, lenA22, bind_some', List.length_map, bin_int, lssI, bind_some', boolB, bind_some']
        by_cases hi : i < t.args.length
        · have hrec := deep48 (t.args[i]) h (ok.arg (List.getElem_mem hi))
          rw [ltT hi, condT, indexA_map _ _ _ _ hi, bind_some', partA_full (Ty.cells_len _), bind_some', hrec, onOut_ret, maxs1, bind_some', bin_int, addI, bind_some', incI (by omega), ih (i + 1) _ hi (by omega), List.drop_eq_getElem_cons hi, Ty.deepL]
        · rw [ltF hi, condF, List.drop_of_length_le (by omega), Ty.deepL, bin_int, addI, bind_some']
    refine evw_run primsC (t.args.length + 1) rfl rfl rfl ?_
    rw [nf48, aggS, bind_some', Ty.cells_len, b5, condT, Ty.c0, Ty.c1, Ty.c2, Ty.c3, Ty.c4, Ty.deep_eq]
    have := loop (.lit (.int .i64 t.k)) (.lit (.int .i64 t.n)) (.lit (.string t.name)) (.sl 1 (t.labels.map strC)) (t.args.length + 1) 0 0 (Nat.zero_le _) (by omega)
    rw [List.drop_zero] at this
    exact this
  termination_by t => SizeOf.sizeOf t
  decreasing_by exact Ty.size_arg hi
theorem deep17 : ∀ (e : Exp) (h : Heap), e.Ok → evw E 17 [.agg e.cells] h = some (.ret (.lit (.int .i64 e.deep)), h)
  | e, h, ok => by
    have hlen : e.kids.length ≤ 9223372036854775807 := ok.len
    have htl : e.types.length ≤ 9223372036854775807 := ok.tlen
    obtain ⟨N, hN⟩ : ∃ N, N = e.kids.length + e.types.length + 1 := ⟨_, rfl⟩
    have loop1 : ∀ (q i : Nat) (acc : Int), i ≤ e.kids.length → e.kids.length < q + i → Lp17_1 (evw E) N h q h (.lit (.int .i64 acc)) (.sl 7 (e.kids.map Exp.cells)) (.lit (.int .i64 (e.kids.length : Int))) (.lit (.int .i64 (i : Int))) = some (.ret (.lit (.int .i64 (add64 (Exp.deepL acc (e.kids.drop i)) 1))), h) := by
      intro q
      induction q with
      | zero => intro i acc h1 h2; omega
      | succ q ih =>
        intro i acc h1 h2
        rw [Lp17_1_succ, bin_int, lssI, bind_some', boolB, bind_some']
        by_cases hi : i < e.kids.length
        · have hrec := deep17 (e.kids[i]) h (ok.kid (List.getElem_mem hi))
          rw [ltT hi, condT, indexA_map _ _ _ _ hi, bind_some', partA_full (Exp.cells_len _), bind_some', aggS, bind_some', Exp.cells_len, b7, condT, Exp.re, hrec, onOut_ret, maxs1, bind_some', bin_int, addI, bind_some', incI (by omega), ih (i + 1) _ hi (by omega), List.drop_eq_getElem_cons hi, Exp.deepL]
        · rw [ltF hi, condF, List.drop_of_length_le (by omega), Exp.deepL, bin_int, addI, bind_some']
    have loop0 : ∀ (x0 x1 x2 x3 x4 x5 : AV) (q i : Nat) (acc : Int), i ≤ e.types.length → e.types.length < q + i → Lp17_0 (evw E) N h q h x0 x1 x2 x3 x4 x5 (.sl 7 (e.kids.map Exp.cells)) (.lit (.int .i64 acc)) (.sl 5 (e.types.map Ty.cells)) (.lit (.int .i64 (e.types.length : Int))) (.lit (.int .i64 (i : Int))) = some (.ret (.lit (.int .i64 (add64 (Exp.deepL (Ty.deepL acc (e.types.drop i)) e.kids) 1))), h) := by
      intro x0 x1 x2 x3 x4 x5 q
      induction q with
      | zero => intro i acc h1 h2; omega
      | succ q ih =>
        intro i acc h1 h2
        rw [Lp17_0_succ, bin_int, lssI, bind_some', boolB, bind_some']
        by_cases hi : i < e.types.length
        · rw [ltT hi, condT, indexA_map _ _ _ _ hi, bind_some', partA_full (Ty.cells_len _), bind_some', aggS, bind_some', Ty.cells_len, b5, condT, Ty.refold, deep47 _ _ (ok.ty (List.getElem_mem hi)), onOut_ret, maxs1, bind_some', bin_int, addI, bind_some', incI (by omega), ih (i + 1) _ hi (by omega), List.drop_eq_getElem_cons hi, Ty.deepL]
        · rw [ltF hi, condF, List.drop_of_length_le (show e.types.length ≤ i by omega), Ty.deepL, lenA24, bind_some', List.length_map]
          have := loop1 N 0 acc (Nat.zero_le _) (by omega)
          rw [List.drop_zero] at this
          exact this
    refine evw_run primsC N rfl rfl rfl ?_
    rw [nf17, aggS, bind_some', Exp.cells_len, b7, condT, Exp.c0, Exp.c1, Exp.c2, Exp.c3, Exp.c4, Exp.c5, Exp.c6, lenA22, bind_some', List.length_map, Exp.deep_eq]
    have := loop0 (.lit (.int .i64 e.k)) (.lit (.int .i64 e.n)) (.lit (.string e.name)) (.lit (.bool e.has)) (.sl 5 (e.types.map Ty.cells)) (.sl 1 (e.labels.map strC)) N 0 0 (Nat.zero_le _) (by omega)
    rw [List.drop_zero] at this
    exact this
  termination_by e => SizeOf.sizeOf e
  decreasing_by exact Exp.size_kid hi
theorem deep18 : ∀ (e : Exp) (h : Heap), e.Ok → evw E 18 [.agg e.cells] h = some (.ret (.lit (.int .i64 e.deep)), h)
  | e, h, ok => by
    have hlen : e.kids.length ≤ 9223372036854775807 := ok.len
    have htl : e.types.length ≤ 9223372036854775807 := ok.tlen
    obtain ⟨N, hN⟩ : ∃ N, N = e.kids.length + e.types.length + 1 := ⟨_, rfl⟩
    have loop1 : ∀ (x0 x1 x2 x3 x4 x5 : AV) (q i : Nat) (acc : Int), i ≤ e.kids.length → e.kids.length < q + i → Lp18_1 (evw E) N h q h x0 x1 x2 x3 x4 x5 (.sl 7 (e.kids.map Exp.cells)) (.lit (.int .i64 acc)) (.lit (.int .i64 (i : Int))) = some (.ret (.lit (.int .i64 (add64 (Exp.deepL acc (e.kids.drop i)) 1))), h) := by
      intro x0 x1 x2 x3 x4 x5 q
      induction q with
      | zero => intro i acc h1 h2; omega
      | succ q ih =>
        intro i acc h1 h2
        rw [Lp18_1_succ, lenA24, bind_some', List.length_map, bin_int, lssI, bind_some', boolB, bind_some']
        by_cases hi : i < e.kids.length
        · have hrec := deep18 (e.kids[i]) h (ok.kid (List.getElem_mem hi))
          rw [ltT hi, condT, indexA_map _ _ _ _ hi, bind_some', partA_full (Exp.cells_len _), bind_some', hrec, onOut_ret, maxs1, bind_some', bin_int, addI, bind_some', incI (by omega), ih (i + 1) _ hi (by omega), List.drop_eq_getElem_cons hi, Exp.deepL]
        · rw [ltF hi, condF, List.drop_of_length_le (by omega), Exp.deepL, bin_int, addI, bind_some']
    have loop0 : ∀ (x0 x1 x2 x3 x5 : AV) (q i : Nat) (acc : Int), i ≤ e.types.length → e.types.length < q + i → Lp18_0 (evw E) N h q h x0 x1 x2 x3 (.sl 5 (e.types.map Ty.cells)) x5 (.sl 7 (e.kids.map Exp.cells)) (.lit (.int .i64 acc)) (.lit (.int .i64 (i : Int))) = some (.ret (.lit (.int .i64 (add64 (Exp.deepL (Ty.deepL acc (e.types.drop i)) e.kids) 1))), h) := by
      intro x0 x1 x2 x3 x5 q
      induction q with
      | zero => intro i acc h1 h2; omega
      | succ q ih =>
        intro i acc h1 h2
        rw [Lp18_0_succ, lenA22, bind_some', List.length_map, bin_int, lssI, bind_some', boolB, bind_some']
        by_cases hi : i < e.types.length
        · rw [ltT hi, condT, indexA_map _ _ _ _ hi, bind_some', partA_full (Ty.cells_len _), bind_some', deep48 _ _ (ok.ty (List.getElem_mem hi)), onOut_ret, maxs1, bind_some', bin_int, addI, bind_some', incI (by omega), ih (i + 1) _ hi (by omega), List.drop_eq_getElem_cons hi, Ty.deepL]
        · rw [ltF hi, condF, List.drop_of_length_le (show e.types.length ≤ i by omega), Ty.deepL]
          have := loop1 x0 x1 x2 x3 (.sl 5 (e.types.map Ty.cells)) x5 N 0 acc (Nat.zero_le _) (by omega)
          rw [List.drop_zero] at this
          exact this
    refine evw_run primsC N rfl rfl rfl ?_
    rw [nf18, aggS, bind_some', Exp.cells_len, b7, condT, Exp.c0, Exp.c1, Exp.c2, Exp.c3, Exp.c4, Exp.c5, Exp.c6, Exp.deep_eq]
    have := loop0 (.lit (.int .i64 e.k)) (.lit (.int .i64 e.n)) (.lit (.string e.name)) (.lit (.bool e.has)) (.sl 1 (e.labels.map strC)) N 0 0 (Nat.zero_le _) (by omega)
    rw [List.drop_zero] at this
    exact this
  termination_by e => SizeOf.sizeOf e
  decreasing_by exact Exp.size_kid hi

/- At, by definition -/
end Go.Sh.T

/- What is free, and called: the document's lists and the program's. -/
namespace Go.Sh.T
open Go Go.Sh
set_option linter.unusedSimpArgs false
set_option linter.unusedVariables false
set_option maxRecDepth 100000
/-- A text, put in its place in a list that rises, once. -/
def putR : List ByteArray → ByteArray → List ByteArray
  | [], s => [s]
  | x :: r, s => bif strLt x s then x :: putR r s else bif !(strLt x s || strEq x s) then s :: x :: r else x :: r
theorem putR_len (s : ByteArray) : ∀ l : List ByteArray, (putR l s).length ≤ l.length + 1
  | [] => Nat.le_refl _
  | x :: r => by
    have := putR_len s r
    rw [putR]
    cases strLt x s with
    | true => rw [cond_true, List.length_cons, List.length_cons]; omega
    | false =>
      rw [cond_false]
      cases !(false || strEq x s) with
      | true => rw [cond_true]; simp
      | false => rw [cond_false]; simp
theorem foldR_len : ∀ (l out : List ByteArray), (l.foldl putR out).length ≤ out.length + l.length
  | [], out => Nat.le_refl _
  | x :: l, out => by
    have h1 := foldR_len l (putR out x)
    have h2 := putR_len x out
    rw [List.foldl_cons, List.length_cons]; omega
mutual
/-- The document's free names. -/
def Exp.rfree : Exp → List ByteArray
  | ⟨k, n, s, b, ts, ls, xs⟩ => Exp.rfreeK k s xs 0 (bif k == 4 then [s] else [])
def Exp.rfreeK (k : Int) (s : ByteArray) : List Exp → Nat → List ByteArray → List ByteArray
  | [], _, out => out
  | x :: r, i, out => Exp.rfreeK k s r (i + 1) ((bif k == 7 || (k == 5 && decide ((i : Int) > 0)) then x.rfree.filter (fun y => !strEq y s) else x.rfree).foldl putR out)
end
mutual
/-- The document's called names. -/
def Exp.rcalls : Exp → List ByteArray
  | ⟨k, n, s, b, ts, ls, xs⟩ => Exp.rcallsK xs (bif k == 13 then [s] else [])
def Exp.rcallsK : List Exp → List ByteArray → List ByteArray
  | [], out => out
  | x :: r, out => Exp.rcallsK r (x.rcalls.foldl putR out)
end
mutual
theorem Exp.rfree_len : ∀ e : Exp, e.rfree.length ≤ e.pre.length
  | ⟨k, n, s, b, ts, ls, xs⟩ => by
    have := Exp.rfreeK_len k s xs 0 (bif k == 4 then [s] else [])
    rw [Exp.rfree, Exp.pre, List.length_cons]
    have h1 : (bif k == 4 then [s] else []).length ≤ 1 := by cases k == 4 <;> simp
    omega
theorem Exp.rfreeK_len (k : Int) (s : ByteArray) : ∀ (l : List Exp) (i : Nat) (out : List ByteArray), (Exp.rfreeK k s l i out).length ≤ out.length + (Exp.preL l).length
  | [], i, out => by rw [Exp.rfreeK]; exact Nat.le_add_right _ _
  | x :: r, i, out => by
    have h1 := Exp.rfree_len x
    rw [Exp.rfreeK, Exp.preL, List.length_append]
    have h2 := Exp.rfreeK_len k s r (i + 1) ((bif k == 7 || (k == 5 && decide ((i : Int) > 0)) then x.rfree.filter (fun y => !strEq y s) else x.rfree).foldl putR out)
    have h3 := foldR_len (bif k == 7 || (k == 5 && decide ((i : Int) > 0)) then x.rfree.filter (fun y => !strEq y s) else x.rfree) out
    have h4 : (bif k == 7 || (k == 5 && decide ((i : Int) > 0)) then x.rfree.filter (fun y => !strEq y s) else x.rfree).length ≤ x.rfree.length := by
      cases k == 7 || (k == 5 && decide ((i : Int) > 0)) with
      | true => rw [cond_true]; exact List.length_filter_le _ _
      | false => exact Nat.le_refl _
    omega
end
mutual
theorem Exp.rcalls_len : ∀ e : Exp, e.rcalls.length ≤ e.pre.length
  | ⟨k, n, s, b, ts, ls, xs⟩ => by
    have := Exp.rcallsK_len xs (bif k == 13 then [s] else [])
    rw [Exp.rcalls, Exp.pre, List.length_cons]
    have h1 : (bif k == 13 then [s] else []).length ≤ 1 := by cases k == 13 <;> simp
    omega
theorem Exp.rcallsK_len : ∀ (l : List Exp) (out : List ByteArray), (Exp.rcallsK l out).length ≤ out.length + (Exp.preL l).length
  | [], out => by rw [Exp.rcallsK]; exact Nat.le_add_right _ _
  | x :: r, out => by
    have h1 := Exp.rcalls_len x
    have h2 := Exp.rcallsK_len r (x.rcalls.foldl putR out)
    have h3 := foldR_len x.rcalls out
    rw [Exp.rcallsK, Exp.preL, List.length_append]
    omega
end

end Go.Sh.T

/- What is free, and called, is the same; ExpTells. -/
namespace Go.Sh.T
open Go Go.Sh
set_option linter.unusedSimpArgs false
set_option linter.unusedVariables false
set_option maxRecDepth 100000
theorem strLt_by (x y : ByteArray) : strLt x y = decide (toB x < toB y) := by
  unfold strLt
  rw [Go.Proofs.bytesLess_eq, toList_data, toList_data]
theorem strEq_by (x y : ByteArray) : strEq x y = decide (toB x = toB y) := by
  unfold strEq
  rw [toList_data, toList_data, Bool.eq_iff_iff, beq_iff_eq, decide_eq_true_eq]
theorem putR_by (s : ByteArray) : ∀ l : List ByteArray, (putR l s).map toB = putB (l.map toB) (toB s)
  | [] => rfl
  | x :: r => by
    rw [putR, List.map_cons, putB, strLt_by, strEq_by]
    by_cases h1 : toB x < toB s
    · rw [decide_eq_true h1, cond_true, cond_true, List.map_cons, putR_by s r]
    · rw [decide_eq_false h1, cond_false, cond_false, Bool.false_or]
      by_cases h2 : toB x = toB s
      · rw [decide_eq_true h2, Bool.not_true, cond_false, h2, decide_eq_false (by_irrefl _), cond_false]
        rw [List.map_cons, h2]
      · rw [decide_eq_false h2, Bool.not_false, cond_true]
        have h3 : toB s < toB x := by_lt_of (List.not_lt.1 h1) (fun e => h2 e.symm)
        rw [decide_eq_true h3, cond_true]; rfl
theorem foldR_by : ∀ (l out : List ByteArray), (l.foldl putR out).map toB = (l.map toB).foldl putB (out.map toB)
  | [], out => rfl
  | x :: l, out => by rw [List.foldl_cons, foldR_by l, putR_by, List.map_cons, List.foldl_cons]
theorem mem_toB {x : ByteArray} {l : List ByteArray} : toB x ∈ l.map toB ↔ x ∈ l := by
  constructor
  · intro h
    obtain ⟨y, hy, e⟩ := List.mem_map.1 h
    have : y = x := by rw [← ofB_toB y, ← ofB_toB x, e]
    rw [← this]; exact hy
  · exact fun h => List.mem_map.2 ⟨x, h, rfl⟩
theorem foldR_mem {x : ByteArray} {l out : List ByteArray} : x ∈ l.foldl putR out ↔ x ∈ l ∨ x ∈ out := by
  rw [← mem_toB, foldR_by, foldB_mem, mem_toB, mem_toB]
theorem foldR_rise {l out : List ByteArray} (h : (out.map toB).Pairwise (· < ·)) : ((l.foldl putR out).map toB).Pairwise (· < ·) := by rw [foldR_by]; exact foldB_rise _ _ h
mutual
theorem Exp.rfree_rise : ∀ e : Exp, (e.rfree.map toB).Pairwise (· < ·)
  | ⟨k, n, s, b, ts, ls, xs⟩ => by
    rw [Exp.rfree]
    refine Exp.rfreeK_rise k s xs 0 _ ?_
    cases k == 4 with
    | true => exact List.pairwise_singleton _ _
    | false => exact List.Pairwise.nil
theorem Exp.rfreeK_rise (k : Int) (s : ByteArray) : ∀ (l : List Exp) (i : Nat) (out : List ByteArray), (out.map toB).Pairwise (· < ·) → ((Exp.rfreeK k s l i out).map toB).Pairwise (· < ·)
  | [], i, out, h => by rw [Exp.rfreeK]; exact h
  | x :: r, i, out, h => by rw [Exp.rfreeK]; exact Exp.rfreeK_rise k s r (i + 1) _ (foldR_rise h)
end
mutual
theorem Exp.rcalls_rise : ∀ e : Exp, (e.rcalls.map toB).Pairwise (· < ·)
  | ⟨k, n, s, b, ts, ls, xs⟩ => by
    rw [Exp.rcalls]
    refine Exp.rcallsK_rise xs _ ?_
    cases k == 13 with
    | true => exact List.pairwise_singleton _ _
    | false => exact List.Pairwise.nil
theorem Exp.rcallsK_rise : ∀ (l : List Exp) (out : List ByteArray), (out.map toB).Pairwise (· < ·) → ((Exp.rcallsK l out).map toB).Pairwise (· < ·)
  | [], out, h => by rw [Exp.rcallsK]; exact h
  | x :: r, out, h => by rw [Exp.rcallsK]; exact Exp.rcallsK_rise r _ (foldR_rise h)
end
theorem eqS'_eq (x y : ByteArray) : eqS' x y = strEq x y := rfl
theorem filt {x s : ByteArray} {l : List ByteArray} : x ∈ l.filter (fun y => !strEq y s) ↔ x ∈ l ∧ eqS' x s = false := by
  rw [List.mem_filter, Bool.not_eq_true', eqS'_eq]
theorem Exp.rfreeK_mem (k : Int) (s : ByteArray) {x : ByteArray} : ∀ (l : List Exp) (i : Nat) (out : List ByteArray), x ∈ Exp.rfreeK k s l i out ↔ x ∈ out ∨ x ∈ Exp.rfreeK k s l i []
  | [], i, out => by rw [Exp.rfreeK, Exp.rfreeK]; simp
  | c :: r, i, out => by
    rw [Exp.rfreeK, Exp.rfreeK, Exp.rfreeK_mem k s r (i + 1), Exp.rfreeK_mem k s r (i + 1) (List.foldl putR [] _), foldR_mem, foldR_mem]
    constructor
    · rintro ((h | h) | h)
      · exact .inr (.inl (.inl h))
      · exact .inl h
      · exact .inr (.inr h)
    · rintro (h | (h | h) | h)
      · exact .inl (.inr h)
      · exact .inl (.inl h)
      · cases h
      · exact .inr h
/-- What is bound ahead of kid number j. -/
def curB (k : Int) (s : ByteArray) (B : ByteArray → Bool) (j : Nat) : ByteArray → Bool := bif k == 7 || (k == 5 && decide (j > 1)) then (fun x => eqS' x s || B x) else B
theorem curB_next (k : Int) (s : ByteArray) (B : ByteArray → Bool) (i : Nat) : (bif k == 5 && Nat.beq i 1 then (fun x => eqS' x s || B x) else curB k s B i) = curB k s B (i + 1) := by
  unfold curB
  cases h7 : k == 7 with
  | true =>
    rw [beq_iff_eq] at h7; subst h7; rfl
  | false =>
    rw [Bool.false_or, Bool.false_or]
    cases h5 : k == 5 with
    | false => rfl
    | true =>
      rw [Bool.true_and, Bool.true_and, Bool.true_and]
      rcases i with _ | _ | i
      · rfl
      · rfl
      · rw [show decide (i + 1 + 1 > 1) = true from by simp, show decide (i + 1 + 1 + 1 > 1) = true from by simp, show Nat.beq (i + 1 + 1) 1 = false from rfl]; rfl
mutual
theorem Exp.free_mem (x : ByteArray) : ∀ (e : Exp) (B : ByteArray → Bool), x ∈ e.free B ↔ x ∈ e.rfree ∧ B x = false
  | ⟨k, n, s, b, ts, ls, xs⟩, B => by
    have ih := Exp.freeK_mem x k s B xs 0
    rw [Exp.free, Exp.rfree, List.mem_append, Exp.rfreeK_mem]
    have hB0 : (bif k == 4 then B else bif k == 7 then (fun x => eqS' x s || B x) else B) = curB k s B 0 := by
      unfold curB
      cases h4 : k == 4 with
      | true => rw [beq_iff_eq] at h4; subst h4; rfl
      | false => cases h7 : k == 7 <;> simp
    rw [hB0, ih]
    cases h4 : k == 4 with
    | true =>
      simp only [Bool.true_and, cond_true, List.mem_singleton]
      cases hs : B s with
      | true =>
        simp only [Bool.not_true, cond_false, List.not_mem_nil, false_or]
        constructor
        · rintro ⟨h1, h2⟩; exact ⟨.inr h1, h2⟩
        · rintro ⟨h1 | h1, h2⟩
          · rw [h1, hs] at h2; cases h2
          · exact ⟨h1, h2⟩
      | false =>
        simp only [Bool.not_false, cond_true, List.mem_singleton]
        constructor
        · rintro (h | ⟨h1, h2⟩)
          · exact ⟨.inl h, by rw [h]; exact hs⟩
          · exact ⟨.inr h1, h2⟩
        · rintro ⟨h | h, h2⟩
          · exact .inl h
          · exact .inr ⟨h, h2⟩
    | false =>
      simp only [Bool.false_and, cond_false, List.not_mem_nil, false_or]
theorem Exp.freeK_mem (x : ByteArray) (k : Int) (s : ByteArray) (B : ByteArray → Bool) : ∀ (l : List Exp) (i : Nat), x ∈ Exp.freeK (k == 5) (fun x => eqS' x s || B x) l i (curB k s B i) ↔ x ∈ Exp.rfreeK k s l i [] ∧ B x = false
  | [], i => by rw [Exp.freeK, Exp.rfreeK]; simp
  | c :: r, i => by
    rw [Exp.freeK, curB_next, List.mem_append, Exp.free_mem x c, Exp.freeK_mem x k s B r (i + 1), Exp.rfreeK, Exp.rfreeK_mem k s r (i + 1) (List.foldl putR [] _), foldR_mem]
    have hd : decide ((i : Int) > 0) = decide (i + 1 > 1) := by rw [decide_eq_decide]; omega
    rw [hd]
    unfold curB
    cases k == 7 || (k == 5 && decide (i + 1 > 1)) with
    | true =>
      simp only [cond_true, filt, Bool.or_eq_false_iff, List.not_mem_nil, or_false]
      constructor
      · rintro (⟨h1, h2, h3⟩ | ⟨h1, h2⟩)
        · exact ⟨.inl ⟨h1, h2⟩, h3⟩
        · exact ⟨.inr h1, h2⟩
      · rintro ⟨⟨h1, h2⟩ | h1, h3⟩
        · exact .inl ⟨h1, h2, h3⟩
        · exact .inr ⟨h1, h3⟩
    | false =>
      simp only [cond_false, List.not_mem_nil, or_false]
      constructor
      · rintro (⟨h1, h2⟩ | ⟨h1, h2⟩)
        · exact ⟨.inl h1, h2⟩
        · exact ⟨.inr h1, h2⟩
      · rintro ⟨h1 | h1, h3⟩
        · exact .inl ⟨h1, h3⟩
        · exact .inr ⟨h1, h3⟩
end
/- calls -/
def callsN : List Exp → List ByteArray
  | [] => []
  | x :: r => bif x.k == 13 then x.name :: callsN r else callsN r
theorem callsN_append : ∀ l m : List Exp, callsN (l ++ m) = callsN l ++ callsN m
  | [], m => rfl
  | x :: l, m => by
    rw [List.cons_append, callsN, callsN, callsN_append l m]
    cases x.k == 13 <;> rfl
mutual
theorem Exp.rcalls_mem (x : ByteArray) : ∀ e : Exp, x ∈ callsN e.pre ↔ x ∈ e.rcalls
  | ⟨k, n, s, b, ts, ls, xs⟩ => by
    rw [Exp.pre, Exp.rcalls, callsN, Exp.rcallsK_mem x xs]
    show x ∈ (bif k == 13 then s :: callsN (Exp.preL xs) else callsN (Exp.preL xs)) ↔ _
    cases k == 13 with
    | true => simp
    | false => simp
theorem Exp.rcallsK_mem (x : ByteArray) : ∀ (l : List Exp) (out : List ByteArray), x ∈ Exp.rcallsK l out ↔ x ∈ out ∨ x ∈ callsN (Exp.preL l)
  | [], out => by rw [Exp.rcallsK, Exp.preL]; simp [callsN]
  | c :: r, out => by
    rw [Exp.rcallsK, Exp.rcallsK_mem x r, foldR_mem, ← Exp.rcalls_mem x c, Exp.preL, callsN_append, List.mem_append]
    constructor
    · rintro ((h | h) | h)
      · exact .inr (.inl h)
      · exact .inl h
      · exact .inr (.inr h)
    · rintro (h | h | h)
      · exact .inl (.inr h)
      · exact .inl (.inl h)
      · exact .inr h
end
/- the program's -/
theorem Exp.ok_small : ∀ e : Exp, e.Ok → e.small = true := by
  have key : ∀ n : Nat, ∀ e : Exp, SizeOf.sizeOf e < n → e.Ok → e.small = true := by
    intro n
    induction n with
    | zero => intro e h; omega
    | succ n ih =>
      intro e h ok
      have hl : ∀ l : List Exp, (∀ x ∈ l, x.small = true) → Exp.smallL l = true := by
        intro l
        induction l with
        | nil => intro _; rfl
        | cons x r ihl => intro hx; rw [Exp.smallL, hx x List.mem_cons_self, ihl fun y hy => hx y (List.mem_cons_of_mem _ hy)]; rfl
      rw [Exp.small_eq, show Nat.ble e.kids.length 9223372036854775807 = true from by rw [Nat.ble_eq]; exact ok.len, Bool.true_and]
      refine hl _ fun x hx => ih x ?_ (ok.kid hx)
      obtain ⟨i, hi, rfl⟩ := List.mem_iff_getElem.1 hx
      have := Exp.size_kid hi
      omega
  exact fun e ok => key _ e (Nat.lt_succ_self _) ok
mutual
theorem Exp.free_len : ∀ (e : Exp) (B : ByteArray → Bool), (e.free B).length ≤ e.pre.length
  | ⟨k, n, s, b, ts, ls, xs⟩, B => by
    rw [Exp.free, Exp.pre, List.length_append, List.length_cons]
    have h1 := Exp.freeK_len (k == 5) (fun x => eqS' x s || B x) xs 0 (bif k == 4 then B else bif k == 7 then (fun x => eqS' x s || B x) else B)
    have h2 : (bif k == 4 && !B s then [s] else []).length ≤ 1 := by cases k == 4 && !B s <;> simp
    omega
theorem Exp.freeK_len (lt : Bool) (B' : ByteArray → Bool) : ∀ (l : List Exp) (i : Nat) (B : ByteArray → Bool), (Exp.freeK lt B' l i B).length ≤ (Exp.preL l).length
  | [], i, B => by rw [Exp.freeK]; exact Nat.zero_le _
  | c :: r, i, B => by
    rw [Exp.freeK, Exp.preL, List.length_append, List.length_append]
    have h1 := Exp.free_len c (bif lt && Nat.beq i 1 then B' else B)
    have h2 := Exp.freeK_len lt B' r (i + 1) (bif lt && Nat.beq i 1 then B' else B)
    omega
end
end Go.Sh.T

/- ExpDefs. -/
namespace Go.Sh.T
open Go Go.Sh
set_option linter.unusedSimpArgs false
set_option linter.unusedVariables false
set_option maxRecDepth 100000

theorem volE_mem {α : Type} (f : α → List AV) : ∀ (l : List α) (x : α), x ∈ l → volC (f x) ≤ volE (l.map f)
  | y :: l, x, h => by
    rw [List.map_cons, volE]
    rcases List.mem_cons.1 h with e | e
    · rw [e]; omega
    · have := volE_mem f l x e; omega
theorem volE_len {α : Type} (f : α → List AV) (h1 : ∀ x, 1 ≤ volC (f x)) : ∀ (l : List α), l.length ≤ volE (l.map f)
  | [] => Nat.zero_le _
  | y :: l => by
    rw [List.map_cons, volE, List.length_cons]
    have := volE_len f h1 l; have := h1 y; omega

/- the types that a definition promises -/
def Sig.tys (s : Sig) : List Ty := s.bs.map Bind.ty ++ (s.ps.map Bind.ty ++ [s.res])
theorem Bind.vol (b : Bind) : volC b.cells = Sh.vol (.lit (.string b.name)) + volC b.ty.cells := (Eq.refl _).trans rfl
theorem Bind.vol1 (b : Bind) : 1 ≤ volC b.cells := by
  rw [Bind.vol, Ty.cells_eq]; simp only [volC, Sh.vol]; omega
theorem Sig.vol_bs (s : Sig) : volE (s.bs.map Bind.cells) + volE (s.ps.map Bind.cells) + volC s.res.cells ≤ volC s.cells := by
  unfold Sig.cells; simp only [volC, Sh.vol]; omega
structure Sig.Slim (s : Sig) : Prop where
  len : s.bs.length + s.ps.length ≤ 1048576
  tys : ∀ t ∈ s.tys, t.pre.length ≤ 1048576
theorem Sig.slim (s : Sig) (h : volC s.cells ≤ 1048576) : s.Slim := by
  have h0 := s.vol_bs
  have h1 := volE_len Bind.cells Bind.vol1 s.bs
  have h2 := volE_len Bind.cells Bind.vol1 s.ps
  refine ⟨by omega, fun t ht => ?_⟩
  have h3 := Ty.pre_vol t
  unfold Sig.tys at ht
  rcases List.mem_append.1 ht with ht | ht
  · obtain ⟨b, hb, rfl⟩ := List.mem_map.1 ht
    have := volE_mem Bind.cells s.bs b hb
    have := b.vol; omega
  · rcases List.mem_append.1 ht with ht | ht
    · obtain ⟨b, hb, rfl⟩ := List.mem_map.1 ht
      have := volE_mem Bind.cells s.ps b hb
      have := b.vol; omega
    · rw [List.mem_singleton.1 ht] at h3 ⊢; omega
theorem Sig.tys_ok {s : Sig} (ok : s.Ok) : ∀ t ∈ s.tys, t.Ok := by
  intro t ht
  unfold Sig.tys at ht
  rcases List.mem_append.1 ht with ht | ht
  · obtain ⟨b, hb, rfl⟩ := List.mem_map.1 ht
    exact (ok.bs b hb).ty
  · rcases List.mem_append.1 ht with ht | ht
    · obtain ⟨b, hb, rfl⟩ := List.mem_map.1 ht
      exact (ok.ps b hb).ty
    · rw [List.mem_singleton.1 ht]; exact ok.res
theorem Sig.tys_len (s : Sig) : s.tys.length = s.bs.length + (s.ps.length + 1) := by unfold Sig.tys; simp
theorem bleA {n : Nat} (h : n ≤ 1048577) : Nat.ble n maxApp = true := by
  rw [Nat.ble_eq]; have hm : maxApp = 2147483648 := rfl; omega
theorem tyL_snoc (z : List Ty) (t : Ty) : z.map Ty.cells ++ [t.cells] = (z ++ [t]).map Ty.cells := by rw [List.map_append]; rfl

theorem types57 (s : Sig) (ok : s.Ok) (sl : s.Slim) (h : Heap) : evw E 57 [.agg s.cells] h = some (.ret (.sl 5 (s.tys.map Ty.cells)), h) := by
  have hlen := sl.len
  obtain ⟨N, hN⟩ : ∃ N, N = s.bs.length + s.ps.length + 1 := ⟨_, rfl⟩
  have loop1 : ∀ (x0 x1 x2 : AV) (q i : Nat) (z : List Ty), i ≤ s.ps.length → s.ps.length < q + i → z.length + (s.ps.length - i) ≤ 1048576 → Lp57_1 (evw E) N h q h x0 x1 x2 (s.cells.getD 3 .dead) (s.cells.getD 4 .dead) (s.cells.getD 5 .dead) (s.cells.getD 6 .dead) (s.cells.getD 7 .dead) (z.map Ty.cells) (.sl 6 (s.ps.map Bind.cells)) (.lit (.int .i64 (s.ps.length : Int))) (.lit (.int .i64 (i : Int))) = some (.ret (.sl 5 ((z ++ ((s.ps.drop i).map Bind.ty ++ [s.res])).map Ty.cells)), h) := by
    intro x0 x1 x2 q
    induction q with
    | zero => intro i z h1 h2; omega
    | succ q ih =>
      intro i z h1 h2 h3
      rw [Lp57_1_succ, bin_int, lssI, bind_some', boolB, bind_some']
      by_cases hi : i < s.ps.length
      · rw [ltT hi, condT, indexA_map _ _ _ _ hi, bind_some', partA_full (Bind.len _), bind_some', aggS, bind_some', Bind.len, b6, condT, List.length_map, bleA (by simp; omega), condT, bin_int, addI, bind_some', incI (by omega), Bind.re1, tyL_snoc, ih (i + 1) _ hi (by omega) (by simp; omega), List.drop_eq_getElem_cons hi, List.map_cons (f := Bind.ty), List.append_assoc z]
        rfl
      · rw [ltF hi, condF, List.length_map, bleA (by simp; omega), condT, Sig.re3, tyL_snoc, List.drop_of_length_le (by omega)]
        rfl
  have loop0 : ∀ (q i : Nat) (z : List Ty), i ≤ s.bs.length → s.bs.length < q + i → z.length + (s.bs.length - i) + s.ps.length ≤ 1048576 → Lp57_0 (evw E) N h q h (s.cells.getD 0 .dead) (s.cells.getD 1 .dead) (.sl 6 (s.ps.map Bind.cells)) (s.cells.getD 3 .dead) (s.cells.getD 4 .dead) (s.cells.getD 5 .dead) (s.cells.getD 6 .dead) (s.cells.getD 7 .dead) (z.map Ty.cells) (.sl 6 (s.bs.map Bind.cells)) (.lit (.int .i64 (s.bs.length : Int))) (.lit (.int .i64 (i : Int))) = some (.ret (.sl 5 ((z ++ ((s.bs.drop i).map Bind.ty ++ (s.ps.map Bind.ty ++ [s.res]))).map Ty.cells)), h) := by
    intro q
    induction q with
    | zero => intro i z h1 h2; omega
    | succ q ih =>
      intro i z h1 h2 h3
      rw [Lp57_0_succ, bin_int, lssI, bind_some', boolB, bind_some']
      by_cases hi : i < s.bs.length
      · rw [ltT hi, condT, indexA_map _ _ _ _ hi, bind_some', partA_full (Bind.len _), bind_some', aggS, bind_some', Bind.len, b6, condT, List.length_map, bleA (by simp; omega), condT, bin_int, addI, bind_some', incI (by omega), Bind.re1, tyL_snoc, ih (i + 1) _ hi (by omega) (by simp; omega), List.drop_eq_getElem_cons hi, List.map_cons (f := Bind.ty), List.append_assoc z]
        rfl
      · rw [ltF hi, condF, lenA39, bind_some', List.length_map, List.drop_of_length_le (show s.bs.length ≤ i by omega)]
        have := loop1 (s.cells.getD 0 .dead) (s.cells.getD 1 .dead) (.sl 6 (s.ps.map Bind.cells)) N 0 z (Nat.zero_le _) (by omega) (by omega)
        rw [List.drop_zero] at this
        exact this
  refine evw_run primsC N rfl rfl rfl ?_
  rw [nf57, aggS, bind_some', Sig.len, b8, condT, Sig.c1, Sig.c2, lenA39, bind_some', List.length_map]
  have := loop0 N 0 [] (Nat.zero_le _) (by omega) (by simp; omega)
  rw [List.drop_zero] at this
  exact this

theorem types58 (s : Sig) (ok : s.Ok) (sl : s.Slim) (h : Heap) : evw E 58 [.agg s.cells] h = some (.ret (.sl 5 (s.tys.map Ty.cells)), h) := by
  have hlen := sl.len
  obtain ⟨N, hN⟩ : ∃ N, N = s.bs.length + s.ps.length + 1 := ⟨_, rfl⟩
  have loop1 : ∀ (x0 x1 : AV) (q i : Nat) (z : List Ty), i ≤ s.ps.length → s.ps.length < q + i → z.length + (s.ps.length - i) ≤ 1048576 → Lp58_1 (evw E) N h q h x0 x1 (.sl 6 (s.ps.map Bind.cells)) (s.cells.getD 3 .dead) (s.cells.getD 4 .dead) (s.cells.getD 5 .dead) (s.cells.getD 6 .dead) (s.cells.getD 7 .dead) (z.map Ty.cells) (.lit (.int .i64 (i : Int))) = some (.ret (.sl 5 ((z ++ ((s.ps.drop i).map Bind.ty ++ [s.res])).map Ty.cells)), h) := by
    intro x0 x1 q
    induction q with
    | zero => intro i z h1 h2; omega
    | succ q ih =>
      intro i z h1 h2 h3
      rw [Lp58_1_succ, lenA39, bind_some', List.length_map, bin_int, lssI, bind_some', boolB, bind_some']
      by_cases hi : i < s.ps.length
      · rw [ltT hi, condT, indexA_map _ _ _ _ hi, bind_some', Bind.len, show Nat.ble 1 6 = true from rfl, condT, Bind.p1, bind_some', aggS, bind_some', Ty.cells_len, b5, condT, List.length_map, bleA (by simp; omega), condT, bin_int, addI, bind_some', incI (by omega), Ty.refold, tyL_snoc, ih (i + 1) _ hi (by omega) (by simp; omega), List.drop_eq_getElem_cons hi, List.map_cons (f := Bind.ty), List.append_assoc z]
        rfl
      · rw [ltF hi, condF, List.length_map, bleA (by simp; omega), condT, Sig.re3, tyL_snoc, List.drop_of_length_le (by omega)]
        rfl
  have loop0 : ∀ (q i : Nat) (z : List Ty), i ≤ s.bs.length → s.bs.length < q + i → z.length + (s.bs.length - i) + s.ps.length ≤ 1048576 → Lp58_0 (evw E) N h q h (s.cells.getD 0 .dead) (.sl 6 (s.bs.map Bind.cells)) (.sl 6 (s.ps.map Bind.cells)) (s.cells.getD 3 .dead) (s.cells.getD 4 .dead) (s.cells.getD 5 .dead) (s.cells.getD 6 .dead) (s.cells.getD 7 .dead) (z.map Ty.cells) (.lit (.int .i64 (i : Int))) = some (.ret (.sl 5 ((z ++ ((s.bs.drop i).map Bind.ty ++ (s.ps.map Bind.ty ++ [s.res]))).map Ty.cells)), h) := by
    intro q
    induction q with
    | zero => intro i z h1 h2; omega
    | succ q ih =>
      intro i z h1 h2 h3
      rw [Lp58_0_succ, lenA39, bind_some', List.length_map, bin_int, lssI, bind_some', boolB, bind_some']
      by_cases hi : i < s.bs.length
      · rw [ltT hi, condT, indexA_map _ _ _ _ hi, bind_some', Bind.len, show Nat.ble 1 6 = true from rfl, condT, Bind.p1, bind_some', aggS, bind_some', Ty.cells_len, b5, condT, List.length_map, bleA (by simp; omega), condT, bin_int, addI, bind_some', incI (by omega), Ty.refold, tyL_snoc, ih (i + 1) _ hi (by omega) (by simp; omega), List.drop_eq_getElem_cons hi, List.map_cons (f := Bind.ty), List.append_assoc z]
        rfl
      · rw [ltF hi, condF, List.drop_of_length_le (show s.bs.length ≤ i by omega)]
        have := loop1 (s.cells.getD 0 .dead) (.sl 6 (s.bs.map Bind.cells)) N 0 z (Nat.zero_le _) (by omega) (by omega)
        rw [List.drop_zero] at this
        exact this
  refine evw_run primsC N rfl rfl rfl ?_
  rw [nf58, aggS, bind_some', Sig.len, b8, condT, Sig.c1, Sig.c2]
  have := loop0 N 0 [] (Nat.zero_le _) (by omega) (by simp; omega)
  rw [List.drop_zero] at this
  exact this

/- how large, how deep -/
def sizeL : List Ty → Int → Int → Int × Int
  | [], n, d => (n, d)
  | t :: r, n, d => sizeL r (add64 n t.nodes) (mx d t.deep)
def Def.size (d : Def) : Int × Int := sizeL d.sig.tys (expsN d.body.pre : Int) d.body.deep
theorem nodes45 (t : Ty) (ok : t.Ok) (hp : t.pre.length ≤ 1048576) (h : Heap) : evw E 45 [.agg t.cells] h = some (.ret (.lit (.int .i64 t.nodes)), h) := by
  refine evw_prim primsC (p := p45) (by rfl) ?_
  rw [p45_run _ t ok, cntW_eq' _ _ (by omega) (by rw [List.length_map]; omega), Ty.nodes_pre t (by omega), List.length_map]
  simp
theorem size27 (d : Def) (ok : d.Ok) (sl : d.sig.Slim) (hv : expsN d.body.pre ≤ 1048576) (h : Heap) : evw E 27 [.agg d.cells] h = some (.ret (.tup [.lit (.int .i64 d.size.1), .lit (.int .i64 d.size.2)]), h) := by
  have hlen := d.sig.tys_len
  have hsl := sl.len
  have loop : ∀ (q i : Nat) (n m : Int), i ≤ d.sig.tys.length → d.sig.tys.length < q + i → Lp27_0 (evw E) (d.sig.tys.length + 1) h q h (.lit (.int .i64 n)) (.lit (.int .i64 m)) (.sl 5 (d.sig.tys.map Ty.cells)) (.lit (.int .i64 (d.sig.tys.length : Int))) (.lit (.int .i64 (i : Int))) = some (.ret (.tup [.lit (.int .i64 (sizeL (d.sig.tys.drop i) n m).1), .lit (.int .i64 (sizeL (d.sig.tys.drop i) n m).2)]), h) := by
    intro q
    induction q with
    | zero => intro i n m h1 h2; omega
    | succ q ih =>
      intro i n m h1 h2
      rw [Lp27_0_succ, bin_int, lssI, bind_some', boolB, bind_some']
      by_cases hi : i < d.sig.tys.length
      · have hm := List.getElem_mem hi
        rw [ltT hi, condT, indexA_map _ _ _ _ hi, bind_some', partA_full (Ty.cells_len _), bind_some', aggS, bind_some', Ty.cells_len, b5, condT, Ty.refold, nodes45 _ (Sig.tys_ok ok.sig _ hm) (sl.tys _ hm), onOut_ret, bin_int, addI, bind_some', deep47 _ _ (Sig.tys_ok ok.sig _ hm), onOut_ret, maxs1, bind_some', bin_int, addI, bind_some', incI (by omega), ih (i + 1) _ _ hi (by omega), List.drop_eq_getElem_cons hi, sizeL]
      · rw [ltF hi, condF, List.drop_of_length_le (by omega), sizeL]
  refine evw_run primsC (d.sig.tys.length + 1) rfl rfl rfl ?_
  rw [nf27, aggS, bind_some', Def.len, b15, condT, Def.reBody, Def.reSig, nodes12 _ ok.body hv, onOut_ret, deep17 _ _ ok.body, onOut_ret, types57 _ ok.sig sl, onOut_ret, lenA22, bind_some', List.length_map]
  have := loop (d.sig.tys.length + 1) 0 (expsN d.body.pre : Int) d.body.deep (Nat.zero_le _) (by omega)
  rw [List.drop_zero] at this
  exact this
theorem size28 (d : Def) (ok : d.Ok) (sl : d.sig.Slim) (hv : expsN d.body.pre ≤ 1048576) (h : Heap) : evw E 28 [.agg d.cells] h = some (.ret (.tup [.lit (.int .i64 d.size.1), .lit (.int .i64 d.size.2)]), h) := by
  have hlen := d.sig.tys_len
  have hsl := sl.len
  have loop : ∀ (q i : Nat) (n m : Int), i ≤ d.sig.tys.length → d.sig.tys.length < q + i → Lp28_0 (evw E) (d.sig.tys.length + 1) h q h (.lit (.int .i64 n)) (.lit (.int .i64 m)) (.sl 5 (d.sig.tys.map Ty.cells)) (.lit (.int .i64 (i : Int))) = some (.ret (.tup [.lit (.int .i64 (sizeL (d.sig.tys.drop i) n m).1), .lit (.int .i64 (sizeL (d.sig.tys.drop i) n m).2)]), h) := by
    intro q
    induction q with
    | zero => intro i n m h1 h2; omega
    | succ q ih =>
      intro i n m h1 h2
      rw [Lp28_0_succ, lenA22, bind_some', List.length_map, bin_int, lssI, bind_some', boolB, bind_some']
      by_cases hi : i < d.sig.tys.length
      · have hm := List.getElem_mem hi
        rw [ltT hi, condT, indexA_map _ _ _ _ hi, bind_some', partA_full (Ty.cells_len _), bind_some', nodes_spec _ _ (Sig.tys_ok ok.sig _ hm), onOut_ret, bin_int, addI, bind_some', bind_some', partA_full (Ty.cells_len _), bind_some', deep48 _ _ (Sig.tys_ok ok.sig _ hm), onOut_ret, maxs1, bind_some', bin_int, addI, bind_some', incI (by omega), ih (i + 1) _ _ hi (by omega), List.drop_eq_getElem_cons hi, sizeL]
      · rw [ltF hi, condF, List.drop_of_length_le (by omega), sizeL]
  refine evw_run primsC (d.sig.tys.length + 1) rfl rfl rfl ?_
  rw [nf28, aggS, bind_some', Def.len, b15, condT, Def.reBody, Def.reSig, nodes16 _ _ ok.body hv, onOut_ret, deep18 _ _ ok.body, onOut_ret, types58 _ ok.sig sl, onOut_ret]
  have := loop (d.sig.tys.length + 1) 0 (expsN d.body.pre : Int) d.body.deep (Nat.zero_le _) (by omega)
  rw [List.drop_zero] at this
  exact this
end Go.Sh.T

/- ExpDefs: names, the document's Sig, both Defs, the law. -/
namespace Go.Sh.T
open Go Go.Sh
set_option linter.unusedSimpArgs false
set_option linter.unusedVariables false
set_option maxRecDepth 100000

def idxR : List ByteArray → Int → ByteArray → Int
  | [], _, _ => -1
  | x :: r, i, s => bif strEq x s then i else idxR r (i + 1) s
theorem place_ref (l : List ByteArray) (hl : l.length ≤ maxLen) (s : ByteArray) (h : Heap) : evw E 89 [.sl 1 (l.map strC), .lit (.string s)] h = some (.ret (.lit (.int .i64 (idxR l 0 s))), h) := by
  have hl : l.length ≤ 9223372036854775807 := hl
  have loop : ∀ (q i : Nat), i ≤ l.length → l.length < q + i → Lp89_0 (evw E) (l.length + 1) h q h (.sl 1 (l.map strC)) (.lit (.string s)) (.lit (.int .i64 (i : Int))) = some (.ret (.lit (.int .i64 (idxR (l.drop i) i s))), h) := by
    intro q
    induction q with
    | zero => intro i h1 h2; omega
    | succ q ih =>
      intro i h1 h2
      rw [Lp89_0_succ, lenA23, bind_some', bin_int, lssI, bind_some', boolB, bind_some', List.length_map]
      by_cases hi : i < l.length
      · rw [ltT hi, condT, indexA_map _ _ _ _ hi, bind_some', part_str, bind_some', eqS, bind_some', boolB, bind_some', List.drop_eq_getElem_cons hi, idxR]
        cases strEq l[i] s with
        | true => rfl
        | false => rw [condF, condF, bin_int, addI, bind_some', incI (by omega)]; exact ih (i + 1) hi (by omega)
      · rw [ltF hi, condF, show l.drop i = [] from List.drop_eq_nil_of_le (by omega), idxR]
  refine evw_run primsC (l.length + 1) rfl rfl rfl ?_
  rw [nf89]
  have := loop (l.length + 1) 0 (Nat.zero_le _) (by omega)
  rw [List.drop_zero, show ((0 : Nat) : Int) = 0 from rfl] at this
  exact this
theorem idxR_any : ∀ (l : List ByteArray) (i : Int) (s : ByteArray), 0 ≤ i → decide (idxR l i s ≥ 0) = l.any fun x => strEq x s
  | [], i, s, h => rfl
  | x :: r, i, s, h => by
    rw [idxR, List.any_cons]
    cases e : strEq x s with
    | true => rw [condT, Bool.true_or]; simpa using h
    | false => rw [condF, Bool.false_or, idxR_any r (i + 1) s (by omega)]
theorem strEq_data (x s : ByteArray) : (x.data.toList == s.data.toList) = strEq x s := by
  rw [Bool.eq_iff_iff, strEq_iff, beq_iff_eq]
  constructor
  · intro h; cases x; cases s; simp only [ByteArray.mk.injEq] at *; exact Array.toList_inj.1 h
  · intro h; rw [h]
theorem seenB_eq (l : List ByteArray) (s : ByteArray) : DI.seenB l s = l.any fun x => strEq x s := by
  unfold DI.seenB
  induction l with
  | nil => rfl
  | cons x l ih => rw [List.any_cons, List.any_cons, ih, strEq_data]

theorem names90 (l : List Bind) (hl : l.length ≤ 1048576) (h : Heap) : evw E 90 [.sl 6 (l.map Bind.cells)] h = some (.ret (.sl 1 ((l.map Bind.name).map strC)), h) := by
  have loop : ∀ (q i : Nat) (z : List ByteArray), i ≤ l.length → l.length < q + i → z.length + (l.length - i) ≤ 1048576 → Lp90_0 (evw E) (l.length + 1) h q h (.sl 6 (l.map Bind.cells)) (z.map strC) (.lit (.int .i64 (i : Int))) = some (.ret (.sl 1 ((z ++ (l.drop i).map Bind.name).map strC)), h) := by
    intro q
    induction q with
    | zero => intro i z h1 h2; omega
    | succ q ih =>
      intro i z h1 h2 h3
      rw [Lp90_0_succ, lenA39, bind_some', bin_int, lssI, bind_some', boolB, bind_some', List.length_map]
      by_cases hi : i < l.length
      · rw [ltT hi, condT, indexA_map _ _ _ _ hi, bind_some', Bind.len, show Nat.ble 0 6 = true from rfl, condT, Bind.p0, bind_some', show AV.one (.lit (.string l[i].name)) = true from rfl, condT, List.length_map, bleA (by simp; omega), condT, bin_int, addI, bind_some', incI (by omega),
          show z.map strC ++ [[AV.lit (.string l[i].name)]] = (z ++ [l[i].name]).map strC from by rw [List.map_append]; rfl, ih (i + 1) _ hi (by omega) (by simp; omega), List.drop_eq_getElem_cons hi, List.map_cons (f := Bind.name), List.append_assoc z]
        rfl
      · rw [ltF hi, condF, List.drop_of_length_le (by omega), List.map_nil, List.append_nil]
  refine evw_run primsC (l.length + 1) rfl rfl rfl ?_
  rw [nf90]
  have := loop (l.length + 1) 0 [] (Nat.zero_le _) (by omega) (by simp; omega)
  rw [List.drop_zero] at this
  exact this

theorem slice39 (es : List (List AV)) (i : Nat) (h : i ≤ es.length) : sliceA E 39 (.sl 6 es) none (some (.lit (.int .i64 (i : Int)))) = some (.sl 6 (es.take i)) := by
  have h1 : sliceA E 39 (.sl 6 es) none (some (.lit (.int .i64 (i : Int)))) = bif decide ((0 : Int) ≤ 0) && decide ((0 : Int) ≤ (i : Int)) && decide ((i : Int) ≤ (es.length : Int)) then some (.sl 6 ((es.take (i : Int).toNat).drop (0 : Int).toNat)) else none := by kernel_rfl
  rw [h1, decide_eq_true (show (0 : Int) ≤ 0 by omega), decide_eq_true (show (0 : Int) ≤ (i : Int) by omega), decide_eq_true (show (i : Int) ≤ (es.length : Int) by omega)]
  rfl

/- the document's rounds -/
def refB (may : ByteArray → Bool) : List ByteArray → List ByteArray → Bool
  | _, [] => true
  | pre, s :: r => bif may s then (bif pre.any (fun x => strEq x s) then false else refB may (pre ++ [s]) r) else false
def distB (may : ByteArray → Bool) : List ByteArray → List ByteArray → Bool
  | [], _ => true
  | s :: r, seen => bif DI.seenB seen s then false else bif may s then distB may r (s :: seen) else false
theorem dist_ref (may : ByteArray → Bool) : ∀ (l pre : List ByteArray), distB may l pre.reverse = refB may pre l
  | [], pre => rfl
  | s :: r, pre => by
    rw [distB, refB, seenB_eq, List.any_reverse, show s :: pre.reverse = (pre ++ [s]).reverse from by simp, dist_ref may r (pre ++ [s])]
    cases may s <;> cases pre.any (fun x => strEq x s) <;> rfl
theorem distW_eq (f : Nat) (may : ByteArray → Bool) (hf : ∀ s h, evw E f [.lit (.string s)] h = some (.ret (.lit (.bool (may s))), h)) (h : Heap) : ∀ (l : List Bind) (seen : List ByteArray), (∀ b ∈ l, b.Ok) → DI.distW (evw E) f (l.map Bind.cells) seen h = some (distB may (l.map Bind.name) seen, h)
  | [], seen, ok => rfl
  | b :: r, seen, ok => by
    rw [List.map_cons, List.map_cons, DI.distW, distB]
    have hn : DI.nameOf b.cells = some b.name := by
      unfold Bind.cells; rw [Ty.cells_eq]; rfl
    rw [hn, bind_some', show Nat.ble b.name.size maxLen = true from by rw [Nat.ble_eq]; exact (ok b List.mem_cons_self).name, condT, hf]
    cases DI.seenB seen b.name with
    | true => rfl
    | false =>
      rw [condF, condF]
      have hb : DI.boolR (some (.ret (.lit (.bool (may b.name))), h)) = some (may b.name, h) := rfl
      rw [hb, bind_some']
      cases may b.name with
      | true => exact distW_eq f may hf h r _ fun x hx => ok x (List.mem_cons_of_mem _ hx)
      | false => rfl
theorem dist60 (f : Nat) (may : ByteArray → Bool) (hf : ∀ s h, evw E f [.lit (.string s)] h = some (.ret (.lit (.bool (may s))), h)) (l : List Bind) (ok : ∀ b ∈ l, b.Ok) (hl : l.length ≤ 1048576) (m : Int) (h : Heap) :
    evw E 60 [.sl 6 (l.map Bind.cells), .lit (.int .i64 m), .fn f [] []] h = some (.ret (.lit (.bool (refB may [] (l.map Bind.name) && decide ((l.length : Int) ≤ m)))), h) := by
  refine evw_prim primsC (p := p60) (by rfl) ?_
  unfold p60
  simp only [List.length_map, bleA (show l.length ≤ 1048577 by omega), condT, distW_eq f may hf h l [] ok, bind_some']
  rw [← dist_ref may (l.map Bind.name) []]; rfl

def varB (s : ByteArray) : Bool := kindR s == 2
def fineN (s : ByteArray) : Bool := kindR s == 1
def Sig.rightB (s : Sig) : Bool := fineN s.name && (decide ((s.bs.length : Int) ≤ 3) && (decide ((s.ps.length : Int) ≤ 4) && (s.tys.all fineB && (refB varB [] (s.bs.map Bind.name) && refB fineN [] (s.ps.map Bind.name)))))
theorem notLe (x y : Int) : decide (x > y) = !decide (x ≤ y) := by rw [Bool.eq_iff_iff]; simp

theorem sig62 (s : Sig) (ok : s.Ok) (sl : s.Slim) (h : Heap) : evw E 62 [.agg s.cells] h = some (.ret (.lit (.bool s.rightB)), h) := by
  have hlen := sl.len
  have htl := s.tys_len
  have hm : maxLen = 9223372036854775807 := rfl
  obtain ⟨N, hN⟩ : ∃ N, N = s.bs.length + s.ps.length + 1 := ⟨_, rfl⟩
  have tk : ∀ (l : List Bind) (i : Nat) (hi : i < l.length), (l.map Bind.name).take i ++ [l[i].name] = (l.map Bind.name).take (i + 1) := fun l i hi => by
    rw [List.take_succ_eq_append_getElem (by rw [List.length_map]; exact hi), List.getElem_map]
  have loop1 : ∀ (x0 x1 x3 x4 x5 x6 x7 : AV) (q i : Nat), i ≤ s.ps.length → s.ps.length < q + i → Lp62_1 (evw E) N h q h x0 x1 (.sl 6 (s.ps.map Bind.cells)) x3 x4 x5 x6 x7 (.lit (.int .i64 (i : Int))) = some (.ret (.lit (.bool (refB fineN ((s.ps.map Bind.name).take i) ((s.ps.drop i).map Bind.name)))), h) := by
    intro x0 x1 x3 x4 x5 x6 x7 q
    induction q with
    | zero => intro i h1 h2; omega
    | succ q ih =>
      intro i h1 h2
      rw [Lp62_1_succ, lenA39, bind_some', List.length_map, bin_int, lssI, bind_some', boolB, bind_some']
      by_cases hi : i < s.ps.length
      · rw [ltT hi, condT, indexA_map _ _ _ _ hi, bind_some', Bind.len, show Nat.ble 0 6 = true from rfl, condT, Bind.p0, bind_some', fine_spec, onOut_ret, notB, bind_some', boolB, bind_some', List.drop_eq_getElem_cons hi, List.map_cons, refB]
        show cond (!fineN s.ps[i].name) _ _ = _
        cases fineN s.ps[i].name with
        | false => rfl
        | true =>
          rw [Bool.not_true, condF, condT, slice39 _ _ (by rw [List.length_map]; exact h1), bind_some', ← List.map_take, names90 _ (by rw [List.length_take]; omega), onOut_ret, bind_some', Bind.len, show Nat.ble 0 6 = true from rfl, condT, Bind.p0, bind_some', place_ref _ (by rw [List.length_map, List.length_take]; omega), onOut_ret, bin_int, geqI, bind_some', boolB, bind_some', idxR_any _ _ _ (by decide), List.map_take]
          cases ((s.ps.map Bind.name).take i).any fun x => strEq x s.ps[i].name with
          | true => rfl
          | false => rw [condF, condF, bin_int, addI, bind_some', incI (by omega), tk _ _ hi]; exact ih (i + 1) hi (by omega)
      · rw [ltF hi, condF, show s.ps.drop i = [] from List.drop_eq_nil_of_le (by omega), List.map_nil, refB]
  have loop0 : ∀ (x0 x3 x4 x5 x6 x7 : AV) (q i : Nat), i ≤ s.bs.length → s.bs.length < q + i → Lp62_0 (evw E) N h q h x0 (.sl 6 (s.bs.map Bind.cells)) (.sl 6 (s.ps.map Bind.cells)) x3 x4 x5 x6 x7 (.lit (.int .i64 (i : Int))) = some (.ret (.lit (.bool (refB varB ((s.bs.map Bind.name).take i) ((s.bs.drop i).map Bind.name) && refB fineN [] (s.ps.map Bind.name)))), h) := by
    intro x0 x3 x4 x5 x6 x7 q
    induction q with
    | zero => intro i h1 h2; omega
    | succ q ih =>
      intro i h1 h2
      rw [Lp62_0_succ, lenA39, bind_some', List.length_map, bin_int, lssI, bind_some', boolB, bind_some']
      by_cases hi : i < s.bs.length
      · rw [ltT hi, condT, indexA_map _ _ _ _ hi, bind_some', Bind.len, show Nat.ble 0 6 = true from rfl, condT, Bind.p0, bind_some', var_spec, onOut_ret, notB, bind_some', boolB, bind_some', List.drop_eq_getElem_cons hi, List.map_cons, refB]
        show cond (!varB s.bs[i].name) _ _ = _
        cases varB s.bs[i].name with
        | false => rfl
        | true =>
          rw [Bool.not_true, condF, condT, slice39 _ _ (by rw [List.length_map]; exact h1), bind_some', ← List.map_take, names90 _ (by rw [List.length_take]; omega), onOut_ret, bind_some', Bind.len, show Nat.ble 0 6 = true from rfl, condT, Bind.p0, bind_some', place_ref _ (by rw [List.length_map, List.length_take]; omega), onOut_ret, bin_int, geqI, bind_some', boolB, bind_some', idxR_any _ _ _ (by decide), List.map_take]
          cases ((s.bs.map Bind.name).take i).any fun x => strEq x s.bs[i].name with
          | true => rfl
          | false => rw [condF, condF, bin_int, addI, bind_some', incI (by omega), tk _ _ hi]; exact ih (i + 1) hi (by omega)
      · rw [ltF hi, condF, show s.bs.drop i = [] from List.drop_eq_nil_of_le (by omega), List.map_nil, refB, Bool.true_and]
        have := loop1 x0 (.sl 6 (s.bs.map Bind.cells)) x3 x4 x5 x6 x7 N 0 (Nat.zero_le _) (by omega)
        rw [List.drop_zero, List.take_zero] at this
        exact this
  refine evw_run primsC N rfl rfl rfl ?_
  rw [nf62, aggS, bind_some', Sig.len, b8, condT, Sig.re, Sig.c0, Sig.c1, Sig.c2, fine_spec, onOut_ret, notB, bind_some', boolB, bind_some']
  have fin := loop0 (.lit (.string s.name)) (s.cells.getD 3 .dead) (s.cells.getD 4 .dead) (s.cells.getD 5 .dead) (s.cells.getD 6 .dead) (s.cells.getD 7 .dead) N 0 (Nat.zero_le _) (by omega)
  rw [List.drop_zero, List.take_zero, show ((0 : Nat) : Int) = 0 from rfl] at fin
  unfold Sig.rightB
  show cond (!fineN s.name) _ _ = _
  cases fineN s.name with
  | false => rfl
  | true =>
    rw [Bool.not_true, condF, lenA39, bind_some', List.length_map, bin_int, gtrI, bind_some', boolB, bind_some', notLe]
    cases decide ((s.bs.length : Int) ≤ 3) with
    | false => rfl
    | true =>
      rw [Bool.not_true, condF, lenA39, bind_some', List.length_map, bin_int, gtrI, bind_some', boolB, bind_some', notLe]
      cases decide ((s.ps.length : Int) ≤ 4) with
      | false => rfl
      | true =>
        rw [Bool.not_true, condF, types58 s ok sl, onOut_ret, types83 _ (by omega) (Sig.tys_ok ok), onOut_ret, notB, bind_some', boolB, bind_some']
        cases s.tys.all fineB with
        | false => rfl
        | true => rw [Bool.not_true, condF, fin]; rfl

/- both Defs -/
def Def.rightB (d : Def) : Bool := d.sig.rightB && (d.body.right && (decide (d.size.1 ≤ 240) && decide (d.size.2 ≤ 40)))
theorem def30 (d : Def) (ok : d.Ok) (sl : d.sig.Slim) (hv : expsN d.body.pre ≤ 1048576) (h : Heap) : evw E 30 [.agg d.cells] h = some (.ret (.lit (.bool d.rightB)), h) := by
  refine evw_run primsC 0 rfl rfl rfl ?_
  rw [nf30, aggS, bind_some', Def.len, b15, condT, Def.re, Def.reSig, Def.reBody, sig62 _ ok.sig sl, onOut_ret, notB, bind_some', boolB, bind_some']
  unfold Def.rightB
  cases d.sig.rightB with
  | false => rfl
  | true =>
    rw [Bool.not_true, condF, right15 _ _ ok.body, onOut_ret, notB, bind_some', boolB, bind_some']
    cases d.body.right with
    | false => rfl
    | true =>
      rw [Bool.not_true, condF, size28 d ok sl hv, onOut_ret, tupS, bind_some', t0, bind_some', bind_some', t1, bind_some', bin_int, leqI, bind_some', boolB, bind_some']
      cases decide (d.size.1 ≤ 240) with
      | false => rfl
      | true => rw [condT, bin_int, leqI, bind_some']; rfl
theorem def29 (d : Def) (ok : d.Ok) (sl : d.sig.Slim) (hv : expsN d.body.pre ≤ 1048576) (h : Heap) : evw E 29 [.agg d.cells] h = some (.ret (.lit (.bool d.rightB)), h) := by
  have hlen := sl.len
  have htl := d.sig.tys_len
  have hm : maxLen = 9223372036854775807 := rfl
  refine evw_run primsC 0 rfl rfl rfl ?_
  rw [nf29, aggS, bind_some', Def.len, b15, condT, Def.re, Def.reSig, Def.reBody, Def.c0, Def.c1, Def.c2, pfine_spec, onOut_ret, notB, bind_some', boolB, bind_some', dist60 61 varB pvar_spec d.sig.bs ok.sig.bs (by omega), onOut_ret, dist60 59 fineN pfine_spec d.sig.ps ok.sig.ps (by omega), onOut_ret, size27 d ok sl hv, onOut_ret, types57 _ ok.sig sl, onOut_ret, all41 _ (by omega) (Sig.tys_ok ok.sig), onOut_ret, right8 _ _ ok.body, onOut_ret, tupS]
  simp only [notB, bind_some', boolB, t0, t1, bin_int, leqI]
  unfold Def.rightB Sig.rightB
  show cond (!fineN d.sig.name) _ _ = _
  cases fineN d.sig.name <;> cases decide ((d.sig.bs.length : Int) ≤ 3) <;> cases decide ((d.sig.ps.length : Int) ≤ 4) <;> cases d.sig.tys.all fineB <;> cases refB varB [] (d.sig.bs.map Bind.name) <;> cases refB fineN [] (d.sig.ps.map Bind.name) <;> cases d.body.right <;> cases decide (d.size.1 ≤ 240) <;> cases decide (d.size.2 ≤ 40) <;> rfl

theorem vol_def {d : Def} {m : Nat} (h : volC d.cells ≤ m) (hm : m ≤ 1048576) : volC d.cells ≤ 1048576 := Nat.le_trans h hm
theorem expDefs_row (d : Def) (ok : d.Ok) (hv : volC d.cells ≤ 1048576) (_ : List Nat) : evw E 5 [.agg d.cells] [] = some (.ret (.lit (.bool true)), []) := by
  unfold Def.cells at hv
  rw [volC_append] at hv
  have sl := d.sig.slim (by omega)
  have hp := d.body.pre_vol
  have hN : expsN d.body.pre ≤ 1048576 := by omega
  refine evw_run primsC 0 rfl rfl rfl ?_
  rw [nf5, aggS, bind_some', Def.len, b15, condT, Def.re, all26 d _ ok, onOut_ret, bin_int, gtrI, bind_some', boolB, bind_some']
  refine cond_split (fun h1 => by rw [awake9, onOut_ret]) (fun h1 => ?_)
  rw [size27 d ok sl hN, onOut_ret, tupS, bind_some', t0, bind_some', bind_some', t1, bind_some', size28 d ok sl hN, onOut_ret, tupS, bind_some', t0, bind_some', bind_some', t1, bind_some', def29 d ok sl hN, onOut_ret, def30 d ok sl hN, onOut_ret, eqB, bind_some', boolB, bind_some', eqd_self, condT]
  simp only [bin_int, eqlI, int_eqd, eqd_self, bind_some', boolB, condT, awake9, onOut_ret]
end Go.Sh.T

/- What a row leans on. -/
namespace Go.Sh.T
open Go Go.Sh Go.Proofs
set_option linter.unusedSimpArgs false
set_option linter.unusedVariables false
def flatTs : List Nat := [3, 4, 9, 22, 23, 24, 26, 34, 39, 41, 43, 82]
theorem flatTs_ok : flatAll E flatTs = true := by kernel_rfl

mutual
theorem dsz_le {H : Type} : ∀ d : DataW H, dsz d ≤ Ythpnngodkjjmoaa.Rows.uptoBulk d
  | .lit l => by cases l <;> simp [dsz, Ythpnngodkjjmoaa.Rows.uptoBulk]
  | .nil => by simp [dsz, Ythpnngodkjjmoaa.Rows.uptoBulk]
  | .ptr d => by simp [dsz, Ythpnngodkjjmoaa.Rows.uptoBulk]
  | .slice e s => by have := dszL_le e; simp only [dsz, Ythpnngodkjjmoaa.Rows.uptoBulk]; omega
  | .agg p => by have := dszL_le p; simp only [dsz, Ythpnngodkjjmoaa.Rows.uptoBulk]; omega
  | .iface _ d => by simp [dsz, Ythpnngodkjjmoaa.Rows.uptoBulk]
  | .map _ => by simp [dsz, Ythpnngodkjjmoaa.Rows.uptoBulk]
  | .held _ => by simp [dsz, Ythpnngodkjjmoaa.Rows.uptoBulk]
theorem dszL_le {H : Type} : ∀ l : List (DataW H), dszL l ≤ Ythpnngodkjjmoaa.Rows.uptoBulkAll l
  | [] => by simp [dszL, Ythpnngodkjjmoaa.Rows.uptoBulkAll]
  | d :: r => by have := dsz_le d; have := dszL_le r; simp only [dszL, Ythpnngodkjjmoaa.Rows.uptoBulkAll]; omega
end
end Go.Sh.T
