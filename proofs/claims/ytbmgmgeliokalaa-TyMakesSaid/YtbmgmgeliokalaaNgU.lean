/- NgU: part of the proof: a shadow of the machine that is proved sound, and what the functions of this seat compute. Conditions: none. -/
import Derived.Test.YtbmgmgeliokalaaTgC
import Derived.Test.YtbmgmgeliokalaaNgE
import Derived.Test.YtbmgmgeliokalaaNgQ
import Derived.Test.YtbmgmgeliokalaaShB
import Derived.Test.YtbmgmgeliokalaaRows
set_option linter.unusedSimpArgs false
/- Functions, few, the document's Rec. -/
namespace Go.Sh.T
open Go Go.Sh Go.Proofs
set_option linter.unusedSimpArgs false
set_option linter.unusedVariables false
set_option maxRecDepth 100000
def fnT (a b : Ty) : Ty := ⟨7, 0, ByteArray.empty, [], [a, b]⟩
theorem fnT_cells (a b : Ty) : (fnT a b).cells = [.lit (.int .i64 7), .lit (.int .i64 0), .lit (.string ByteArray.empty), .sl 1 [], .sl 5 [a.cells, b.cells]] := by rw [Ty.cells_eq]; rfl
theorem fun29 (a b : Ty) (h : Heap) : evw E 29 [.agg a.cells, .agg b.cells] h = some (.ret (.agg (fnT a b).cells), h) := by
  refine evw_run primsC 0 rfl rfl rfl ?_
  rw [nf29, aggS, bind_some', Ty.cells_len, b5, condT, aggS, bind_some', Ty.cells_len, b5, condT, Ty.refold, Ty.refold, fnT_cells]
theorem fun30 (a b : Ty) (h : Heap) : evw E 30 [.agg a.cells, .agg b.cells] h = some (.ret (.agg (fnT a b).cells), h) := by
  refine evw_run primsC 0 rfl rfl rfl ?_
  rw [nf30, aggS, bind_some', Ty.cells_len, b5, condT, aggS, bind_some', Ty.cells_len, b5, condT, Ty.refold, Ty.refold, fnT_cells]
theorem few24 (ls : List ByteArray) (ts : List Ty) (hl : ts.length ≤ maxLen) (ok : ∀ t ∈ ts, t.Ok) (h : Heap) : ∃ b : Bool, evw E 24 [.sl 1 (ls.map strC), .sl 5 (ts.map Ty.cells)] h = some (.ret (.lit (.bool b)), h) ∧ (b = true → ls.length ≤ 60 ∧ ts.length ≤ 60) := by
  have hl : ts.length ≤ 9223372036854775807 := hl
  have fin : ∃ b : Bool, ((lenA E 22 (.sl 1 (ls.map strC))).bind fun n16 => (binAV E .leq 3 (.lit (.int .i64 n16)) (.lit (.int .i64 60))).bind fun r17 => (boolOf r17).bind fun b18 => cond b18 ((lenA E 23 (.sl 5 (ts.map Ty.cells))).bind fun n19 => (binAV E .leq 3 (.lit (.int .i64 n19)) (.lit (.int .i64 60))).bind fun r20 => some (Out.ret r20, h)) (some (.ret (.lit (.bool false)), h))) = some (.ret (.lit (.bool b)), h) ∧ (b = true → ls.length ≤ 60 ∧ ts.length ≤ 60) := by
    rw [lenA22', bind_some', List.length_map, bin_int, leqI, bind_some', boolB, bind_some', lenA23', bind_some', List.length_map, bin_int, leqI, bind_some']
    by_cases c : (ls.length : Int) ≤ 60
    · rw [decide_eq_true c, condT]
      exact ⟨_, rfl, fun hb => ⟨by omega, by have := of_decide_eq_true hb; omega⟩⟩
    · rw [decide_eq_false c, condF]
      exact ⟨false, rfl, fun hb => by cases hb⟩
  have loop : ∀ (q i : Nat), i ≤ ts.length → ts.length < q + i → ∃ b : Bool, Lp24_0 (evw E) (ts.length + 1) h q h (.sl 1 (ls.map strC)) (.sl 5 (ts.map Ty.cells)) (.lit (.int .i64 (i : Int))) = some (.ret (.lit (.bool b)), h) ∧ (b = true → ls.length ≤ 60 ∧ ts.length ≤ 60) := by
    intro q
    induction q with
    | zero => intro i h1 h2; omega
    | succ q ih =>
      intro i h1 h2
      rw [Lp24_0_succ, lenA23', bind_some', List.length_map, bin_int, lssI, bind_some', boolB, bind_some']
      by_cases hi : i < ts.length
      · rw [ltT hi, condT, bin_int, lssI, bind_some', boolB, bind_some']
        by_cases c : (i : Int) < 100
        · rw [decide_eq_true c, condT, indexA_map _ _ _ _ hi, bind_some', partA_full (Ty.cells_len _), bind_some', much_spec _ _ (ok _ (List.getElem_mem hi)), onOut_ret, bin_int, gtrI, bind_some', boolB, bind_some']
          cases decide (Ty.much ts[i] > 100) with
          | true => rw [condT]; exact ⟨false, rfl, fun hb => by cases hb⟩
          | false => rw [condF, bin_int, addI, bind_some', incI (by omega)]; exact ih (i + 1) hi (by omega)
        · rw [decide_eq_false c, condF]
          simp only [lenA22', lenA23', bind_some', List.length_map] at fin ⊢
          exact fin
      · rw [ltF hi, condF]
        simp only [lenA22', lenA23', bind_some', List.length_map] at fin ⊢
        exact fin
  obtain ⟨b, h1, h2⟩ := loop (ts.length + 1) 0 (Nat.zero_le _) (by omega)
  refine ⟨b, evw_run primsC (ts.length + 1) rfl rfl rfl ?_, h2⟩
  rw [nf24]
  exact h1

/- the document's Rec -/
theorem take22 (es : List (List AV)) (i : Nat) (h : i ≤ es.length) : sliceA E 22 (.sl 1 es) none (some (.lit (.int .i64 (i : Int)))) = some (.sl 1 (es.take i)) := by
  unfold sliceA
  rw [show isStr E 22 = false from by kernel_rfl, show elemSize E 22 = some 1 from by kernel_rfl]
  simp only [bndO, intOf, slOf, bind_some', cond_false, Nat.beq_refl, cond_true]
  rw [show (decide ((0 : Int) ≤ 0) && decide ((0 : Int) ≤ (i : Int)) && decide ((i : Int) ≤ (es.length : Int))) = true from by simp [h], cond_true]
  simp
theorem drop22 (es : List (List AV)) (i : Nat) (h : i ≤ es.length) : sliceA E 22 (.sl 1 es) (some (.lit (.int .i64 (i : Int)))) none = some (.sl 1 (es.drop i)) := by
  unfold sliceA
  rw [show isStr E 22 = false from by kernel_rfl, show elemSize E 22 = some 1 from by kernel_rfl]
  simp only [bndO, intOf, slOf, bind_some', cond_false, Nat.beq_refl, cond_true]
  rw [show (decide ((0 : Int) ≤ (i : Int)) && decide ((i : Int) ≤ (es.length : Int)) && decide ((es.length : Int) ≤ (es.length : Int))) = true from by simp [h], cond_true]
  simp
theorem take23 (es : List (List AV)) (i : Nat) (h : i ≤ es.length) : sliceA E 23 (.sl 5 es) none (some (.lit (.int .i64 (i : Int)))) = some (.sl 5 (es.take i)) := by
  unfold sliceA
  rw [show isStr E 23 = false from by kernel_rfl, show elemSize E 23 = some 5 from by kernel_rfl]
  simp only [bndO, intOf, slOf, bind_some', cond_false, Nat.beq_refl, cond_true]
  rw [show (decide ((0 : Int) ≤ 0) && decide ((0 : Int) ≤ (i : Int)) && decide ((i : Int) ≤ (es.length : Int))) = true from by simp [h], cond_true]
  simp
theorem drop23 (es : List (List AV)) (i : Nat) (h : i ≤ es.length) : sliceA E 23 (.sl 5 es) (some (.lit (.int .i64 (i : Int)))) none = some (.sl 5 (es.drop i)) := by
  unfold sliceA
  rw [show isStr E 23 = false from by kernel_rfl, show elemSize E 23 = some 5 from by kernel_rfl]
  simp only [bndO, intOf, slOf, bind_some', cond_false, Nat.beq_refl, cond_true]
  rw [show (decide ((0 : Int) ≤ (i : Int)) && decide ((i : Int) ≤ (es.length : Int)) && decide ((es.length : Int) ≤ (es.length : Int))) = true from by simp [h], cond_true]
  simp
theorem slO (n : Nat) (es : List (List AV)) : slOf n (.sl n es) = some es := by show (bif Nat.beq n n then some es else none) = _; rw [Nat.beq_refl]; rfl
section
variable (F : Nat → List AV → Heap → R) (n : Nat) (h0 : Heap)
/-- One more laid into its place. -/
noncomputable def tail26 (m0 : Nat) (h : Heap) (x33 x34 x35 x36 x37 : AV) (z38 z39 : List (List AV)) (x40 x41 x42 : AV) (z43 z44 : List (List AV)) (x45 x46 : AV) : R := (sliceA E 22 (.sl 1 z43) none (some x46)).bind fun v71 => (slOf 1 v71).bind fun ys72 => cond (Nat.ble (([] : List (List AV)).length + ys72.length) maxApp) ((indexA 1 x33 x45).bind fun e73 => (partA false 1 0 e73).bind fun v74 => cond (AV.one v74) (cond (Nat.ble ((([] ++ ys72) : List (List AV)).length + ([[v74]] : List (List AV)).length) maxApp) ((sliceA E 22 (.sl 1 z43) (some x46) none).bind fun v75 => (slOf 1 v75).bind fun ys76 => cond (Nat.ble (((([] ++ ys72) ++ [[v74]]) : List (List AV)).length + ys76.length) maxApp) ((sliceA E 23 (.sl 5 z44) none (some x46)).bind fun v77 => (slOf 5 v77).bind fun ys78 => cond (Nat.ble (([] : List (List AV)).length + ys78.length) maxApp) ((indexA 5 x34 x45).bind fun e79 => (partA true 5 0 e79).bind fun v80 => (aggOf v80).bind fun l81 => cond (Nat.beq l81.length 5) (cond (Nat.ble ((([] ++ ys78) : List (List AV)).length + ([[(l81.getD 0 .dead), (l81.getD 1 .dead), (l81.getD 2 .dead), (l81.getD 3 .dead), (l81.getD 4 .dead)]] : List (List AV)).length) maxApp) ((sliceA E 23 (.sl 5 z44) (some x46) none).bind fun v82 => (slOf 5 v82).bind fun ys83 => cond (Nat.ble (((([] ++ ys78) ++ [[(l81.getD 0 .dead), (l81.getD 1 .dead), (l81.getD 2 .dead), (l81.getD 3 .dead), (l81.getD 4 .dead)]]) : List (List AV)).length + ys83.length) maxApp) ((binAV E .add 3 x45 (.lit (.int .i64 1))).bind fun r84 => Lp26_0 F n h0 m0 h x33 x34 x35 x36 x37 z38 z39 x40 x41 x42 ((([] ++ ys72) ++ [[v74]]) ++ ys76) ((([] ++ ys78) ++ [[(l81.getD 0 .dead), (l81.getD 1 .dead), (l81.getD 2 .dead), (l81.getD 3 .dead), (l81.getD 4 .dead)]]) ++ ys83) r84) none) none) none) none) none) none) none) none
theorem Lp26_1_succ' (m0 : Nat) (m : Nat) (h : Heap) (x33 x34 x35 x36 x37 : AV) (z38 z39 : List (List AV)) (x40 x41 x42 : AV) (z43 z44 : List (List AV)) (x45 x46 : AV) : Lp26_1 F n h0 m0 (m + 1) h x33 x34 x35 x36 x37 z38 z39 x40 x41 x42 z43 z44 x45 x46 =
    (lenA E 22 (.sl 1 z43)).bind fun n47 => (binAV E .lss 3 x46 (.lit (.int .i64 n47))).bind fun r48 => (boolOf r48).bind fun b49 => cond b49 ((indexA 1 (.sl 1 z43) x46).bind fun e50 => (partA false 1 0 e50).bind fun v51 => (indexA 1 x33 x45).bind fun e52 => (partA false 1 0 e52).bind fun v53 => (binAV E .lss 9 v51 v53).bind fun r54 => (boolOf r54).bind fun b55 => cond b55 ((binAV E .add 3 x46 (.lit (.int .i64 1))).bind fun r56 => Lp26_1 F n h0 m0 m h x33 x34 x35 x36 x37 z38 z39 x40 x41 x42 z43 z44 x45 r56) (tail26 F n h0 m0 h x33 x34 x35 x36 x37 z38 z39 x40 x41 x42 z43 z44 x45 x46)) (tail26 F n h0 m0 h x33 x34 x35 x36 x37 z38 z39 x40 x41 x42 z43 z44 x45 x46) := Lp26_1_succ F n h0 m0 m h x33 x34 x35 x36 x37 z38 z39 x40 x41 x42 z43 z44 x45 x46
end
namespace RC
/-- How many stand ahead. -/
def posQ (s : ByteArray) : List (ByteArray × Ty) → Nat
  | [] => 0
  | x :: r => bif strLt x.1 s then posQ s r + 1 else 0
theorem posQ_le (s : ByteArray) : ∀ q, posQ s q ≤ q.length
  | [] => Nat.le_refl _
  | x :: r => by
    rw [posQ]
    cases strLt x.1 s with
    | true => rw [cond_true, List.length_cons]; have := posQ_le s r; omega
    | false => exact Nat.zero_le _
theorem posQ_ins (p : ByteArray × Ty) : ∀ q, insQ p q = q.take (posQ p.1 q) ++ p :: q.drop (posQ p.1 q)
  | [] => rfl
  | x :: r => by
    rw [insQ, posQ]
    cases strLt x.1 p.1 with
    | true => rw [cond_true, cond_true, List.take_succ_cons, List.drop_succ_cons, List.cons_append, posQ_ins p r]
    | false => rfl
theorem posQ_lt {s : ByteArray} : ∀ {q : List (ByteArray × Ty)} {i : Nat} (hi : i < q.length), i < posQ s q → strLt q[i].1 s = true
  | [], i, hi, _ => by cases hi
  | x :: r, i, hi, h => by
    rw [posQ] at h
    cases hc : strLt x.1 s with
    | true =>
      rw [hc, cond_true] at h
      cases i with
      | zero => exact hc
      | succ i => exact posQ_lt (q := r) (by simpa using hi) (by omega)
    | false => rw [hc, cond_false] at h; omega
theorem posQ_at {s : ByteArray} : ∀ {q : List (ByteArray × Ty)} (hi : posQ s q < q.length), strLt q[posQ s q].1 s = false
  | [], hi => by cases hi
  | x :: r, hi => by
    cases hc : strLt x.1 s with
    | true =>
      have e : posQ s (x :: r) = posQ s r + 1 := by rw [posQ, hc, cond_true]
      have hi' : posQ s r < r.length := by rw [e, List.length_cons] at hi; omega
      have := posQ_at (q := r) hi'
      simp only [e, List.getElem_cons_succ]
      exact this
    | false =>
      have e : posQ s (x :: r) = 0 := by rw [posQ, hc, cond_false]
      simp only [e, List.getElem_cons_zero]
      exact hc
abbrev lab (q : List (ByteArray × Ty)) : List (List AV) := (q.map Prod.fst).map strC
abbrev arg (q : List (ByteArray × Ty)) : List (List AV) := (q.map Prod.snd).map Ty.cells
theorem lab_len (q : List (ByteArray × Ty)) : (lab q).length = q.length := by rw [List.length_map, List.length_map]
theorem arg_len (q : List (ByteArray × Ty)) : (arg q).length = q.length := by rw [List.length_map, List.length_map]
theorem lab_ix (q : List (ByteArray × Ty)) (i : Nat) (hi : i < q.length) : indexA 1 (.sl 1 (lab q)) (.lit (.int .i64 (i : Int))) = some (strC q[i].1) := by
  have := indexA_map (q.map Prod.fst) strC 1 i (by rw [List.length_map]; exact hi)
  rw [this, List.getElem_map]
section
variable (n : Nat) (h0 : Heap) (h : Heap) (ls : List ByteArray) (ts : List Ty) (x35 x36 x37 x40 x41 x42 : AV) (z38 z39 : List (List AV))
theorem tail26_eq (m0 : Nat) (q : List (ByteArray × Ty)) (k i : Nat) (hk : k ≤ q.length) (hq : q.length ≤ 1048576) (hi : i < ls.length) (hi2 : i < ts.length) :
    tail26 (evw E) n h0 m0 h (.sl 1 (ls.map strC)) (.sl 5 (ts.map Ty.cells)) x35 x36 x37 z38 z39 x40 x41 x42 (lab q) (arg q) (.lit (.int .i64 (i : Int))) (.lit (.int .i64 (k : Int))) =
      (binAV E .add 3 (.lit (.int .i64 (i : Int))) (.lit (.int .i64 1))).bind fun r => Lp26_0 (evw E) n h0 m0 h (.sl 1 (ls.map strC)) (.sl 5 (ts.map Ty.cells)) x35 x36 x37 z38 z39 x40 x41 x42 (lab (q.take k ++ (ls[i], ts[i]) :: q.drop k)) (arg (q.take k ++ (ls[i], ts[i]) :: q.drop k)) r := by
  have hm : maxApp = 2147483648 := rfl
  have b : ∀ x : Nat, x ≤ 2147483648 → Nat.ble x maxApp = true := fun x hx => by rw [Nat.ble_eq, hm]; exact hx
  have l1 : ((lab q).take k).length ≤ 1048576 := by rw [List.length_take, lab_len]; omega
  have l2 : ((lab q).drop k).length ≤ 1048576 := by rw [List.length_drop, lab_len]; omega
  have l3 : ((arg q).take k).length ≤ 1048576 := by rw [List.length_take, arg_len]; omega
  have l4 : ((arg q).drop k).length ≤ 1048576 := by rw [List.length_drop, arg_len]; omega
  unfold tail26
  rw [take22 _ _ (by rw [lab_len]; exact hk), bind_some', slO, bind_some', b _ (by rw [List.length_nil]; omega), condT, indexA_map _ _ _ _ hi, bind_some', partS, bind_some', oneS, condT,
    b _ (by rw [List.nil_append, List.length_cons, List.length_nil]; omega), condT, drop22 _ _ (by rw [lab_len]; exact hk), bind_some', slO, bind_some', b _ (by rw [List.nil_append, List.length_append, List.length_cons, List.length_nil]; omega), condT,
    take23 _ _ (by rw [arg_len]; exact hk), bind_some', slO, bind_some', b _ (by rw [List.length_nil]; omega), condT, indexA_map _ _ _ _ hi2, bind_some', partA_full (Ty.cells_len _), bind_some', aggS, bind_some', Ty.cells_len, b5, condT, Ty.refold,
    b _ (by rw [List.nil_append, List.length_cons, List.length_nil]; omega), condT, drop23 _ _ (by rw [arg_len]; exact hk), bind_some', slO, bind_some', b _ (by rw [List.nil_append, List.length_append, List.length_cons, List.length_nil]; omega), condT]
  have e1 : (([] ++ (lab q).take k) ++ [[AV.lit (.string ls[i])]]) ++ (lab q).drop k = lab (q.take k ++ (ls[i], ts[i]) :: q.drop k) := by
    simp only [lab, List.nil_append, List.map_append, List.map_cons, List.map_take, List.map_drop, List.append_assoc, List.singleton_append]; rfl
  have e2 : (([] ++ (arg q).take k) ++ [ts[i].cells]) ++ (arg q).drop k = arg (q.take k ++ (ls[i], ts[i]) :: q.drop k) := by
    simp only [arg, List.nil_append, List.map_append, List.map_cons, List.map_take, List.map_drop, List.append_assoc, List.singleton_append]
  rw [e1, e2]
theorem inner26 (m0 : Nat) (q : List (ByteArray × Ty)) (hq : q.length ≤ 1048576) (i : Nat) (hi : i < ls.length) (hi2 : i < ts.length) : ∀ (m k : Nat), k ≤ posQ ls[i] q → q.length < m + k →
    Lp26_1 (evw E) n h0 m0 m h (.sl 1 (ls.map strC)) (.sl 5 (ts.map Ty.cells)) x35 x36 x37 z38 z39 x40 x41 x42 (lab q) (arg q) (.lit (.int .i64 (i : Int))) (.lit (.int .i64 (k : Int))) =
      (binAV E .add 3 (.lit (.int .i64 (i : Int))) (.lit (.int .i64 1))).bind fun r => Lp26_0 (evw E) n h0 m0 h (.sl 1 (ls.map strC)) (.sl 5 (ts.map Ty.cells)) x35 x36 x37 z38 z39 x40 x41 x42 (lab (insQ (ls[i], ts[i]) q)) (arg (insQ (ls[i], ts[i]) q)) r := by
  have hp := posQ_le ls[i] q
  intro m
  induction m with
  | zero => intro k h1 h2; omega
  | succ m ih =>
    intro k h1 h2
    rw [Lp26_1_succ', lenA22', bind_some', lab_len, bin_int, lssI, bind_some', boolB, bind_some']
    have fin : k = posQ ls[i] q → tail26 (evw E) n h0 m0 h (.sl 1 (ls.map strC)) (.sl 5 (ts.map Ty.cells)) x35 x36 x37 z38 z39 x40 x41 x42 (lab q) (arg q) (.lit (.int .i64 (i : Int))) (.lit (.int .i64 (k : Int))) =
      (binAV E .add 3 (.lit (.int .i64 (i : Int))) (.lit (.int .i64 1))).bind fun r => Lp26_0 (evw E) n h0 m0 h (.sl 1 (ls.map strC)) (.sl 5 (ts.map Ty.cells)) x35 x36 x37 z38 z39 x40 x41 x42 (lab (insQ (ls[i], ts[i]) q)) (arg (insQ (ls[i], ts[i]) q)) r := fun e => by
      rw [tail26_eq n h0 h ls ts x35 x36 x37 x40 x41 x42 z38 z39 m0 q k i (by omega) hq hi hi2, posQ_ins, ← e]
    by_cases hk : k < q.length
    · rw [ltT hk, condT, lab_ix q k hk, bind_some', partS, bind_some', indexA_map _ _ _ _ hi, bind_some', partS, bind_some', bin_str, show strBin .lss q[k].1 ls[i] = some (.lit (.bool (strLt q[k].1 ls[i]))) from rfl, bind_some', boolB, bind_some']
      by_cases hk2 : k < posQ ls[i] q
      · rw [posQ_lt hk hk2, condT, bin_int, addI, bind_some', incI (by omega)]
        exact ih (k + 1) hk2 (by omega)
      · have e : k = posQ ls[i] q := by omega
        have := posQ_at (s := ls[i]) (q := q) (by omega)
        simp only [← e] at this
        rw [this, condF]
        exact fin e
    · rw [ltF hk, condF]
      exact fin (by omega)
end
end RC
end Go.Sh.T

/- The document's Rec is the program's. -/
namespace Go.Sh.T
open Go Go.Sh Go.Proofs Go.Sort
set_option linter.unusedSimpArgs false
set_option linter.unusedVariables false
set_option maxRecDepth 100000
theorem idxR_any : ∀ (l : List ByteArray) (i : Int) (s : ByteArray), 0 ≤ i → decide (idxR l i s ≥ 0) = l.any fun x => strEq x s
  | [], i, s, h => by rw [idxR]; rfl
  | x :: r, i, s, h => by
    rw [idxR, List.any_cons]
    cases strEq x s with
    | true => rw [cond_true, Bool.true_or]; exact decide_eq_true h
    | false => rw [cond_false, Bool.false_or]; exact idxR_any r (i + 1) s (by omega)
theorem strEq_eq {x y : ByteArray} (h : strEq x y = true) : x = y := by
  rw [strEq_by, decide_eq_true_eq] at h
  rw [← ofB_toB x, ← ofB_toB y, h]
theorem strEq_self (x : ByteArray) : strEq x x = true := by rw [strEq_by]; exact decide_eq_true rfl
namespace RC
theorem rising_kind : ∀ {l : List ByteArray} {p : Option ByteArray}, risingR l p = true → ∀ s ∈ l, (kindR s == 1) = true
  | [], p, _ => fun s hs => by cases hs
  | x :: r, p, h => by
    rw [risingR, Bool.and_eq_true, Bool.and_eq_true] at h
    intro s hs
    rcases List.mem_cons.1 hs with e | hs
    · rw [e]; exact h.1.1
    · exact rising_kind h.2 s hs
theorem rising_nodup {l : List ByteArray} (h : risingR l none = true) : l.Nodup := by
  refine (rising_lt h).2.imp fun {a b} hab e => ?_
  rw [e, swo_ltStr.irrefl] at hab; cases hab
/-- All is fine, and apart, and in order: it rises. -/
theorem rising_of : ∀ {l : List ByteArray} {p : Option ByteArray}, (∀ s ∈ l, (kindR s == 1) = true) → l.Pairwise (fun a b => ltStr (keyL b) (keyL a) = false) → l.Nodup → (∀ q, p = some q → ∀ s ∈ l, strLt q s = true) → risingR l p = true
  | [], p, _, _, _, _ => rfl
  | x :: r, p, h1, h2, h3, h4 => by
    obtain ⟨a1, a2⟩ := List.pairwise_cons.1 h2
    obtain ⟨b1, b2⟩ := List.nodup_cons.1 h3
    have hr : risingR r (some x) = true := rising_of (fun s hs => h1 s (List.mem_cons_of_mem _ hs)) a2 b2 fun q e s hs => by
      cases e
      rw [strLt_key]
      cases hc : ltStr (keyL x) (keyL s) with
      | true => rfl
      | false =>
        have := key_anti hc (a1 s hs)
        subst this
        exact absurd hs b1
    rw [risingR, h1 x List.mem_cons_self, hr, Bool.true_and, Bool.and_true]
    cases p with
    | none => rfl
    | some q => exact h4 q rfl x List.mem_cons_self
theorem zip_fst {ls : List ByteArray} {ts : List Ty} (h : ls.length = ts.length) : (ls.zip ts).map Prod.fst = ls := List.map_fst_zip (by omega)
theorem recA_eq {ls : List ByteArray} {ts : List Ty} (h : ls.length = ts.length) : recA ls ts = recQ (sortQ (ls.zip ts)) := by unfold recA; rw [decide_eq_true h, cond_true]
theorem labs_perm {ls : List ByteArray} {ts : List Ty} (h : ls.length = ts.length) : ((sortQ (ls.zip ts)).map Prod.fst).Perm ls := by
  have := (sortQ_ok (ls.zip ts)).1.map Prod.fst
  rwa [zip_fst h] at this
abbrev zeroO : AV := .tup [.agg [.lit (.int .i64 0), .lit (.int .i64 0), .lit (.string ByteArray.empty), .sl 1 [], .sl 5 []], .lit (.bool false)]
theorem rec_bad {ls : List ByteArray} {ts : List Ty} (h : ls.length = ts.length) (hb : ¬ ((∀ s ∈ ls, (kindR s == 1) = true) ∧ ls.Nodup)) : recA ls ts = zeroO := by
  rw [recA_eq h]
  unfold recQ
  cases hr : risingR ((sortQ (ls.zip ts)).map Prod.fst) none with
  | false => rfl
  | true =>
    exfalso
    have hp := labs_perm h
    exact hb ⟨fun s hs => rising_kind hr s (hp.symm.subset hs), hp.nodup_iff.1 (rising_nodup hr)⟩
theorem take_zip {ls : List ByteArray} {ts : List Ty} {i : Nat} (hi : i < ls.length) (hi2 : i < ts.length) : (ls.take (i + 1)).zip (ts.take (i + 1)) = (ls.take i).zip (ts.take i) ++ [(ls[i], ts[i])] := by
  rw [List.take_succ_eq_append_getElem hi, List.take_succ_eq_append_getElem hi2, List.zip_append (by rw [List.length_take, List.length_take]; omega)]
  rfl
theorem loop26 (n : Nat) (h0 h : Heap) (ls : List ByteArray) (ts : List Ty) (hl : ls.length = ts.length) (hm : ls.length ≤ 1048576) (hn : ls.length < n) (x35 x36 x37 : AV) (z38 z39 : List (List AV)) : ∀ (m i : Nat) (q : List (ByteArray × Ty)), i ≤ ls.length → ls.length < m + i → q.Perm ((ls.take i).zip (ts.take i)) → Sorted q → (∀ s ∈ ls.take i, (kindR s == 1) = true) → (ls.take i).Nodup →
    Lp26_0 (evw E) n h0 m h (.sl 1 (ls.map strC)) (.sl 5 (ts.map Ty.cells)) x35 x36 x37 z38 z39 (.lit (.int .i64 8)) (.lit (.int .i64 0)) (.lit (.string ByteArray.empty)) (lab q) (arg q) (.lit (.int .i64 (i : Int))) = some (.ret (recA ls ts), h)
  | 0, i, q, h1, h2, _, _, _, _ => by omega
  | m + 1, i, q, h1, h2, hp, hs, hk, hd => by
    have hM : maxLen = 9223372036854775807 := rfl
    have hql : q.length = i := by
      have := hp.length_eq
      rw [List.length_zip, List.length_take, List.length_take] at this
      omega
    rw [Lp26_0_succ, lenA22', bind_some', List.length_map, bin_int, lssI, bind_some', boolB, bind_some']
    by_cases hi : i < ls.length
    · have hi2 : i < ts.length := by omega
      rw [ltT hi, condT, indexA_map _ _ _ _ hi, bind_some', partS, bind_some', fine_spec, onOut_ret, notB, bind_some', boolB, bind_some']
      cases hf : kindR ls[i] == 1 with
      | false =>
        rw [Bool.not_false, condT, rec_bad hl fun hb => by have := hb.1 ls[i] (List.getElem_mem hi); rw [hf] at this; cases this]
      | true =>
        rw [Bool.not_true, condF, bind_some', partS, bind_some', place_ref _ (by rw [List.length_map, hql]; omega), onOut_ret, bin_int, geqI, bind_some', boolB, bind_some', idxR_any _ _ _ (by omega)]
        have hlabs : (q.map Prod.fst).Perm (ls.take i) := by
          have := hp.map Prod.fst
          rwa [zip_fst (by rw [List.length_take, List.length_take]; omega)] at this
        cases ha : (q.map Prod.fst).any fun x => strEq x ls[i] with
        | true =>
          rw [condT, rec_bad hl fun hb => ?_]
          obtain ⟨y, hy, e⟩ := List.any_eq_true.1 ha
          have e := strEq_eq e
          rw [e] at hy
          have hmem := hlabs.subset hy
          have := (List.take_append_drop i ls) ▸ hb.2
          rw [List.drop_eq_getElem_cons hi, List.nodup_append] at this
          exact this.2.2 _ hmem _ List.mem_cons_self rfl
        | false =>
          rw [condF]
          have hin := inner26 n h0 h ls ts x35 x36 x37 (.lit (.int .i64 8)) (.lit (.int .i64 0)) (.lit (.string ByteArray.empty)) z38 z39 m q (by omega) i hi hi2 n 0 (Nat.zero_le _) (by omega)
          rw [show ((0 : Nat) : Int) = 0 from rfl] at hin
          rw [hin, bin_int, addI, bind_some', incI (by omega)]
          have hmem : ls[i] ∉ ls.take i := fun hc => by
            have := List.any_eq_false.1 ha _ (hlabs.symm.subset hc)
            rw [strEq_self] at this; exact this rfl
          refine loop26 n h0 h ls ts hl hm hn x35 x36 x37 z38 z39 m (i + 1) _ hi (by omega) ?_ (insQ_sorted _ _ hs) ?_ ?_
          · rw [take_zip hi hi2]
            exact (insQ_perm _ q).trans ((hp.cons _).trans (List.perm_append_singleton _ _).symm)
          · rw [List.take_succ_eq_append_getElem hi]
            intro s hs'
            rcases List.mem_append.1 hs' with hs' | hs'
            · exact hk s hs'
            · rw [List.mem_singleton.1 hs']; exact hf
          · rw [List.take_succ_eq_append_getElem hi]
            rw [List.nodup_append]
            refine ⟨hd, by simp, fun a ha b hb e => ?_⟩
            rw [List.mem_singleton.1 hb] at e
            rw [e] at ha; exact hmem ha
    · have hz : (ls.take i).zip (ts.take i) = ls.zip ts := by rw [List.take_of_length_le (by omega), List.take_of_length_le (by omega)]
      rw [ltF hi, condF]
      rw [hz] at hp
      rw [List.take_of_length_le (by omega)] at hk hd
      have hlabs : (q.map Prod.fst).Perm ls := by
        have := hp.map Prod.fst
        rwa [zip_fst hl] at this
      have hr : risingR (q.map Prod.fst) none = true := rising_of (fun s hs' => hk s (hlabs.subset hs')) (List.pairwise_map.2 hs) (hlabs.nodup_iff.2 hd) fun _ e => by cases e
      have e : recA ls ts = recQ q := by rw [recA_eq hl]; exact (rec_uniq (hp.trans (sortQ_ok _).1.symm) hs (sortQ_ok _).2).symm
      rw [e]
      unfold recQ
      rw [hr, cond_true, Ty.cells_eq]
theorem rec26 (ls : List ByteArray) (ts : List Ty) (hm : ls.length ≤ 1048576) (h : Heap) : evw E 26 [.sl 1 (ls.map strC), .sl 5 (ts.map Ty.cells)] h = some (.ret (recA ls ts), h) := by
  refine evw_run primsC (ls.length + 1) rfl rfl rfl ?_
  rw [nf26, lenA22', bind_some', lenA23', bind_some', List.length_map, List.length_map, bin_int, neqI, bind_some', boolB, bind_some', neI]
  by_cases hl : ls.length = ts.length
  · rw [decide_eq_true hl, Bool.not_true, condF]
    have := loop26 (ls.length + 1) h h ls ts hl hm (by omega) (.lit (.int .i64 0)) (.lit (.int .i64 0)) (.lit (.string ByteArray.empty)) [] [] (ls.length + 1) 0 [] (Nat.zero_le _) (by omega) (.refl _) .nil (fun s hs => by cases hs) List.nodup_nil
    exact this
  · rw [decide_eq_false hl, Bool.not_false, condT]
    have e : recA ls ts = zeroO := by unfold recA; rw [decide_eq_false hl, cond_false]; rfl
    rw [e]
end RC
end Go.Sh.T

/- The laws: over steps. -/
namespace Go.Sh.T
open Go Go.Sh Go.Proofs Go.Sort
set_option linter.unusedSimpArgs false
set_option linter.unusedVariables false
set_option maxRecDepth 100000
def recT (ls : List ByteArray) (ts : List Ty) : Ty × Bool := bif decide (ls.length = ts.length) && risingR ((RC.sortQ (ls.zip ts)).map Prod.fst) none then (⟨8, 0, ByteArray.empty, (RC.sortQ (ls.zip ts)).map Prod.fst, (RC.sortQ (ls.zip ts)).map Prod.snd⟩, true) else (zeroT, false)
theorem recA_tup (ls : List ByteArray) (ts : List Ty) : RC.recA ls ts = .tup [.agg (recT ls ts).1.cells, .lit (.bool (recT ls ts).2)] := by
  unfold RC.recA recT
  cases decide (ls.length = ts.length) with
  | false => rw [cond_false, Bool.false_and, cond_false, zeroT_cells]; rfl
  | true =>
    rw [cond_true, Bool.true_and]
    unfold RC.recQ
    cases risingR ((RC.sortQ (ls.zip ts)).map Prod.fst) none with
    | false => rw [cond_false, cond_false, zeroT_cells]; rfl
    | true => rfl
theorem zeroT_ok : zeroT.Ok := .mk (show (Lit.int .i64 0).wf = true by decide) (show (Lit.int .i64 0).wf = true by decide) (Nat.zero_le _) (Nat.zero_le _) (fun _ h => by cases h) (Nat.zero_le _) (fun _ h => by cases h)
theorem fnT_ok {a b : Ty} (oa : a.Ok) (ob : b.Ok) : (fnT a b).Ok := .mk (show (Lit.int .i64 7).wf = true by decide) (show (Lit.int .i64 0).wf = true by decide) (Nat.zero_le _) (Nat.zero_le _) (fun _ h => by cases h) (show 2 ≤ maxLen by decide) (fun s h => by
  have : s ∈ [a, b] := h
  rcases List.mem_cons.1 this with e | e
  · rw [e]; exact oa
  · rw [List.mem_singleton.1 e]; exact ob)
theorem recT_ok {ls : List ByteArray} {ts : List Ty} (hl : ls.length ≤ 1048576) (hs : ∀ s ∈ ls, s.size ≤ maxLen) (ht : ∀ t ∈ ts, t.Ok) : (recT ls ts).1.Ok := by
  have hM : maxLen = 9223372036854775807 := rfl
  unfold recT
  cases hd : decide (ls.length = ts.length) with
  | false => rw [Bool.false_and, cond_false]; exact zeroT_ok
  | true =>
    have hd := of_decide_eq_true hd
    cases risingR ((RC.sortQ (ls.zip ts)).map Prod.fst) none with
    | false => rw [Bool.true_and, cond_false]; exact zeroT_ok
    | true =>
      rw [Bool.true_and, cond_true]
      have hp := RC.labs_perm hd
      have hp2 : ((RC.sortQ (ls.zip ts)).map Prod.snd).Perm ts := by
        have := (RC.sortQ_ok (ls.zip ts)).1.map Prod.snd
        rwa [List.map_snd_zip (by omega)] at this
      exact .mk (show (Lit.int .i64 8).wf = true by decide) (show (Lit.int .i64 0).wf = true by decide) (Nat.zero_le _) (by show (List.map _ _).length ≤ _; rw [hp.length_eq]; omega) (fun s h => hs s (hp.subset h)) (by show (List.map _ _).length ≤ _; rw [hp2.length_eq]; omega) (fun s h => ht s (hp2.subset h))
def tI : Ty := ⟨1, 0, ByteArray.empty, [], []⟩
def tX : Ty := ⟨6, 0, ⟨#[88]⟩, [], []⟩
def tA : Ty := ⟨8, 0, ByteArray.empty, [⟨#[97]⟩, ⟨#[98]⟩], [fnT tX tI, tI]⟩
theorem rec_awake : recT [⟨#[98]⟩, ⟨#[97]⟩] [tI, fnT tX tI] = (tA, true) := by
  have e : RC.sortQ ([⟨#[98]⟩, ⟨#[97]⟩].zip [tI, fnT tX tI]) = [(⟨#[97]⟩, fnT tX tI), (⟨#[98]⟩, tI)] := by
    have h1 : strLt ⟨#[97]⟩ ⟨#[98]⟩ = true := by rw [RC.strLt_key]; decide +kernel
    show RC.insQ _ (RC.insQ _ []) = _
    rw [RC.insQ, RC.insQ, h1]; rfl
  unfold recT
  rw [e]
  have h2 : risingR ([(⟨#[97]⟩, fnT tX tI), (⟨#[98]⟩, tI)].map Prod.fst) none = true := by decide +kernel
  rw [h2]; rfl
end Go.Sh.T

/- awake, TyRight, TySame, over steps. -/
namespace Go.Sh.T.Q
open Go Go.Sh Go.Proofs Go.Sort
set_option linter.unusedSimpArgs false
set_option linter.unusedVariables false
set_option maxRecDepth 100000
theorem s7 (t : Ty) (ok : t.Ok) (h : Heap) : evw E 7 [.agg t.cells] h = some (.ret (.lit (.int .i64 t.much)), h) := stp (by kernel_rfl) (much_spec t h ok)
theorem s9 (t : Ty) (ok : t.Ok) (h : Heap) : evw E 9 [.agg t.cells] h = some (.ret (.lit (.bool t.right)), h) := stp (by kernel_rfl) (pright_spec t h ok)
theorem s10 (t : Ty) (ok : t.Ok) (h : Heap) : evw E 10 [.agg t.cells] h = some (.ret (.lit (.bool t.right)), h) := stp (by kernel_rfl) (right_spec t h ok)
theorem s11 (t : Ty) (ok : t.Ok) (hv : t.pre.length ≤ 1048576) (h : Heap) : evw E 11 [.agg t.cells] h = some (.ret (.lit (.int .i64 t.nodes)), h) := stp (by kernel_rfl) (nodes45 t ok hv h)
theorem s12 (t : Ty) (ok : t.Ok) (h : Heap) : evw E 12 [.agg t.cells] h = some (.ret (.lit (.int .i64 t.nodes)), h) := stp (by kernel_rfl) (nodes_spec t h ok)
theorem s13 (t : Ty) (ok : t.Ok) (h : Heap) : evw E 13 [.agg t.cells] h = some (.ret (.lit (.int .i64 t.deep)), h) := stp (by kernel_rfl) (deep47 t h ok)
theorem s14 (t : Ty) (ok : t.Ok) (h : Heap) : evw E 14 [.agg t.cells] h = some (.ret (.lit (.int .i64 t.deep)), h) := stp (by kernel_rfl) (deep48 t h ok)
theorem s15 (t : Ty) (ok : t.Ok) (k : Int) (h : Heap) : evw E 15 [.agg t.cells, .lit (.int .i64 k)] h = some (.ret (.lit (.bool (t.has k))), h) := stp (by kernel_rfl) (has15 t ok k h)
theorem s16 (t : Ty) (ok : t.Ok) (k : Int) (h : Heap) : evw E 16 [.agg t.cells, .lit (.int .i64 k)] h = some (.ret (.lit (.bool (t.has k))), h) := stp (by kernel_rfl) (has_spec t k h ok)
theorem s17 (l m : List ByteArray) (hl : l.length ≤ maxLen) (h : Heap) : evw E 17 [.sl 1 (l.map strC), .sl 1 (m.map strC)] h = some (.ret (.lit (.bool (eqd l m))), h) := stp (by kernel_rfl) (same79e l m hl h)
theorem s18 (t : Ty) (ok : t.Ok) (hv : t.pre.length ≤ 1048576) (h : Heap) : evw E 18 [.agg t.cells] h = some (.ret (.sl 1 (t.rvars.map strC)), h) := stp (by kernel_rfl) (vars29 t ok hv h)
theorem s19 (t : Ty) (ok : t.Ok) (hv : t.pre.length ≤ 1048576) (h : Heap) : evw E 19 [.agg t.cells] h = some (.ret (.sl 1 (t.rvars.map strC)), h) := stp (by kernel_rfl) (vars30 t h ok hv)
theorem s20 (t : Ty) (ok : t.Ok) (h : Heap) : evw E 20 [.agg t.cells] h = some (.ret (.lit (.bool (!decide (t.pre.length > 300)))), h) := stp (by kernel_rfl) (fits20 t ok h)
theorem s21 (t : Ty) (ok : t.Ok) (hv : t.pre.length ≤ 1048576) (h : Heap) : evw E 21 [.agg t.cells] h = some (.ret (.lit (.bool (!decide (t.pre.length > 300)))), h) := stp (by kernel_rfl) (fits21 t ok hv h)
theorem s22 (t u : Ty) (ok : t.Ok) (h : Heap) : evw E 22 [.agg t.cells, .agg u.cells] h = some (.ret (.lit (.bool (eqd t u))), h) := stp (by kernel_rfl) (same101 t u h ok)
theorem s23 (t u : Ty) (ok : t.Ok) (h : Heap) : evw E 23 [.agg t.cells, .agg u.cells] h = some (.ret (.lit (.bool (eqd t u))), h) := stp (by kernel_rfl) (same23 t u h ok)
theorem s24 (ls : List ByteArray) (ts : List Ty) (hl : ts.length ≤ maxLen) (ok : ∀ t ∈ ts, t.Ok) (h : Heap) : ∃ b : Bool, evw E 24 [.sl 1 (ls.map strC), .sl 5 (ts.map Ty.cells)] h = some (.ret (.lit (.bool b)), h) ∧ (b = true → ls.length ≤ 60 ∧ ts.length ≤ 60) := by
  obtain ⟨b, h1, h2⟩ := few24 ls ts hl ok h
  exact ⟨b, stp (by kernel_rfl) h1, h2⟩
theorem s25 (ls : List ByteArray) (ts : List Ty) (hl : ls.length ≤ 1048576) (h : Heap) : evw E 25 [.sl 1 (ls.map strC), .sl 5 (ts.map Ty.cells)] h = some (.ret (.tup [.agg (recT ls ts).1.cells, .lit (.bool (recT ls ts).2)]), h) := by
  rw [← recA_tup]; exact evw_prim primsC (p := p25x) (by kernel_rfl) (p25x_run _ ls ts hl h)
theorem s26 (ls : List ByteArray) (ts : List Ty) (hl : ls.length ≤ 1048576) (h : Heap) : evw E 26 [.sl 1 (ls.map strC), .sl 5 (ts.map Ty.cells)] h = some (.ret (.tup [.agg (recT ls ts).1.cells, .lit (.bool (recT ls ts).2)]), h) := by
  rw [← recA_tup]; exact stp (by kernel_rfl) (RC.rec26 ls ts hl h)
theorem s27 (t : Ty) (ok : t.Ok) (s : ByteArray) (h : Heap) : evw E 27 [.agg t.cells, .lit (.string s)] h = some (.ret (.tup [.agg ((fieldT t s).getD zeroT).cells, .lit (.bool (fieldT t s).isSome)]), h) := stp (by kernel_rfl) (field174 t ok s h)
theorem s28 (t : Ty) (ok : t.Ok) (s : ByteArray) (h : Heap) : evw E 28 [.agg t.cells, .lit (.string s)] h = some (.ret (.tup [.agg ((fieldT t s).getD zeroT).cells, .lit (.bool (fieldT t s).isSome)]), h) := stp (by kernel_rfl) (field116 t ok s h)
theorem s29 (a b : Ty) (h : Heap) : evw E 29 [.agg a.cells, .agg b.cells] h = some (.ret (.agg (fnT a b).cells), h) := stp (by kernel_rfl) (fun29 a b h)
theorem s30 (a b : Ty) (h : Heap) : evw E 30 [.agg a.cells, .agg b.cells] h = some (.ret (.agg (fnT a b).cells), h) := stp (by kernel_rfl) (fun30 a b h)
theorem lenQ (es : List (List AV)) : lenA E 22 (.sl 1 es) = some (es.length : Int) := (Eq.refl _).trans (by kernel_rfl)
theorem eqQ (x y : Bool) : binAV E .eql 4 (.lit (.bool x)) (.lit (.bool y)) = some (.lit (.bool (eqd x y))) := by
  have h : binAV E .eql 4 (.lit (.bool x)) (.lit (.bool y)) = some (.lit (.bool (x == y))) := by cases x <;> cases y <;> kernel_rfl
  rw [h]; cases x <;> cases y <;> simp [eqd]
theorem tI_ok : tI.Ok := .mk (show (Lit.int .i64 1).wf = true by decide) (show (Lit.int .i64 0).wf = true by decide) (Nat.zero_le _) (Nat.zero_le _) (fun _ h => by cases h) (Nat.zero_le _) (fun _ h => by cases h)
theorem tX_ok : tX.Ok := .mk (show (Lit.int .i64 6).wf = true by decide) (show (Lit.int .i64 0).wf = true by decide) (show 1 ≤ maxLen by decide) (Nat.zero_le _) (fun _ h => by cases h) (Nat.zero_le _) (fun _ h => by cases h)
theorem tA_ok : tA.Ok := by
  have := recT_ok (ls := [⟨#[98]⟩, ⟨#[97]⟩]) (ts := [tI, fnT tX tI]) (by decide) (fun s hs => by
    rcases List.mem_cons.1 hs with e | e
    · rw [e]; show 1 ≤ maxLen; decide
    · rw [List.mem_singleton.1 e]; show 1 ≤ maxLen; decide) (fun t ht => by
    rcases List.mem_cons.1 ht with e | e
    · rw [e]; exact tI_ok
    · rw [List.mem_singleton.1 e]; exact fnT_ok tX_ok tI_ok)
  rw [rec_awake] at this; exact this
theorem i0 (a b : AV) : ([a, b] : List AV)[0]? = some a := rfl
theorem i1 (a b : AV) : ([a, b] : List AV)[1]? = some b := rfl
theorem cX : ([.lit (.int .i64 6), .lit (.int .i64 0), .lit (.string ⟨#[88]⟩), .sl 1 [], .sl 5 []] : List AV) = tX.cells := by rw [Ty.cells_eq]; rfl
theorem cI : ([.lit (.int .i64 1), .lit (.int .i64 0), .lit (.string ByteArray.empty), .sl 1 [], .sl 5 []] : List AV) = tI.cells := by rw [Ty.cells_eq]; rfl
theorem fA : fieldT tA ⟨#[98]⟩ = some tI := by
  unfold fieldT
  have h : ix tA.labels ⟨#[98]⟩ = some 1 := by decide +kernel
  rw [show eqd tA.k 8 = true from eqd_self _, cond_true, h]; rfl
theorem awake8 (h : Heap) : evw E 8 [] h = some (.ret (.lit (.bool true)), h) := by
  refine evw_run primsC 0 rfl rfl rfl ?_
  have a1 := s25 [⟨#[98]⟩, ⟨#[97]⟩] [tI, fnT tX tI] (by decide) h
  rw [rec_awake] at a1
  have a1 : evw E 25 [.sl 1 [[.lit (.string ⟨#[98]⟩)], [.lit (.string ⟨#[97]⟩)]], .sl 5 [tI.cells, (fnT tX tI).cells]] h = some (.ret (.tup [.agg tA.cells, .lit (.bool true)]), h) := a1
  have a2 := s27 tA tA_ok ⟨#[98]⟩ h
  rw [fA, Option.getD_some] at a2
  have hpre : tA.pre.length = 5 := by decide +kernel
  have e1 : tA.right = true := by decide +kernel
  have e2 : (tA.nodes == 5) = true := by decide +kernel
  have e3 : (tA.deep == 3) = true := by decide +kernel
  have e4 : (((tA.rvars.map strC).length : Int) == 1) = true := by decide +kernel
  have e5 : tA.has 7 = true := by decide +kernel
  have e6 : tI.cells.getD 0 .dead = .lit (.int .i64 1) := by rw [Ty.cells_eq]; rfl
  rw [nf8, cX, cI, s29, onOut_ret, aggS, bind_some', Ty.cells_len, b5, condT, Ty.refold, a1, onOut_ret, tupS, bind_some', i0, bind_some', bind_some', i1, bind_some', aggS, bind_some', Ty.cells_len, b5, condT, Ty.refold, a2, onOut_ret, tupS, bind_some', i0, bind_some', bind_some', i1, bind_some', aggS, bind_some', Ty.cells_len, b5, condT, boolB, bind_some', condT,
    Option.isSome_some, boolB, bind_some', condT, s9 _ tA_ok, onOut_ret, e1, boolB, bind_some', condT, s11 _ tA_ok (by rw [hpre]; decide), onOut_ret, bin_int, eqlI, bind_some', boolB, bind_some', e2, condT, s13 _ tA_ok, onOut_ret, bin_int, eqlI, bind_some', boolB, bind_some', e3, condT, e6, bin_int, eqlI, bind_some', boolB, bind_some',
    show ((1 : Int) == 1) = true from rfl, condT, s18 _ tA_ok (by rw [hpre]; decide), onOut_ret, lenQ, bind_some', bin_int, eqlI, bind_some', boolB, bind_some', e4, condT, s20 _ tA_ok, onOut_ret, hpre, boolB, bind_some', show (!decide (5 > 300)) = true from rfl, condT, s22 _ _ tA_ok, onOut_ret, eqd_self, boolB, bind_some', condT, s15 _ tA_ok, onOut_ret, e5]
theorem tyRight_law (t : Ty) (ok : t.Ok) (k : Int) (hk : (Lit.int .i64 k).wf = true) (hw : volC t.cells ≤ 1048576) : evw E 3 [.agg t.cells, .lit (.int .i64 k)] [] = some (.ret (.lit (.bool true)), []) := by
  have hv := Nat.le_trans (Ty.pre_vol t) hw
  have hl := Ty.rvars_len t
  have hm : maxLen = 9223372036854775807 := rfl
  refine evw_run primsC 0 rfl rfl rfl ?_
  rw [nf3, aggS, bind_some', Ty.cells_len, b5, condT, Ty.refold, s7 _ ok, onOut_ret, bin_int, gtrI, bind_some', boolB, bind_some']
  refine cond_split (fun h1 => by rw [awake8, onOut_ret]) (fun h1 => ?_)
  simp only [s9 _ ok, s10 _ ok, s11 t ok hv, s12 _ ok, s13 _ ok, s14 _ ok, s15 t ok, s16 _ ok, s18 t ok hv, s19 t ok hv, s17 t.rvars t.rvars (by omega), s20 t ok, s21 t ok hv, onOut_ret, eqQ, bin_int, eqlI, int_eqd, eqd_self, bind_some', boolB, condT, awake8]
theorem tySame_law (a b : Ty) (oa : a.Ok) (ob : b.Ok) : evw E 4 [.agg a.cells, .agg b.cells] [] = some (.ret (.lit (.bool true)), []) := by
  refine evw_run primsC 0 rfl rfl rfl ?_
  rw [nf4, aggS, bind_some', Ty.cells_len, b5, condT, aggS, bind_some', Ty.cells_len, b5, condT, Ty.refold, Ty.refold, s7 _ oa, onOut_ret, bin_int, gtrI, bind_some', boolB, bind_some']
  refine cond_split (fun h1 => by rw [awake8, onOut_ret]) (fun h1 => ?_)
  rw [s7 _ ob, onOut_ret, bin_int, gtrI, bind_some', boolB, bind_some']
  refine cond_split (fun h1 => by rw [awake8, onOut_ret]) (fun h1 => ?_)
  have hs : eqd b a = eqd a b := by rw [Bool.eq_iff_iff, eqd_iff, eqd_iff]; exact ⟨Eq.symm, Eq.symm⟩
  simp only [s22 _ _ oa, s22 _ _ ob, s23 _ _ oa, onOut_ret, eqQ, eqd_self, bind_some', boolB, condT, hs, awake8]
end Go.Sh.T.Q

/- TyMakes, TyTurned. -/
namespace Go.Sh.T
open Go Go.Sh Go.Proofs Go.Sort
set_option linter.unusedSimpArgs false
set_option linter.unusedVariables false
set_option maxRecDepth 100000
end Go.Sh.T
namespace Go.Sh.T.Q
open Go Go.Sh Go.Proofs Go.Sort
set_option linter.unusedSimpArgs false
set_option linter.unusedVariables false
set_option maxRecDepth 100000
theorem getD_ok {o : Option Ty} (h : ∀ t, o = some t → t.Ok) : (o.getD zeroT).Ok := by
  cases o with
  | none => exact zeroT_ok
  | some t => exact h t rfl
theorem fieldT_ok {t : Ty} (ok : t.Ok) (s : ByteArray) : ((fieldT t s).getD zeroT).Ok := getD_ok fun u hu => by
  unfold fieldT at hu
  cases hk : eqd t.k 8 with
  | false => rw [hk] at hu; cases hu
  | true =>
    rw [hk, cond_true] at hu
    cases hx : ix t.labels s with
    | none => rw [hx] at hu; cases hu
    | some i => rw [hx, Option.bind_some] at hu; exact ok.arg (List.mem_of_getElem? hu)
theorem tyMakes_law (ls : List ByteArray) (ts : List Ty) (t : Ty) (x : ByteArray) (hls : ∀ s ∈ ls, s.size ≤ maxLen) (hl : ts.length ≤ maxLen) (oks : ∀ t ∈ ts, t.Ok) (ok : t.Ok) :
    evw E 5 [.sl 1 (ls.map strC), .sl 5 (ts.map Ty.cells), .agg t.cells, .lit (.string x)] [] = some (.ret (.lit (.bool true)), []) := by
  obtain ⟨b, hb, hb2⟩ := s24 ls ts hl oks []
  refine evw_run primsC 0 rfl rfl rfl ?_
  rw [nf5, aggS, bind_some', Ty.cells_len, b5, condT, hb, onOut_ret, notB, bind_some', boolB, bind_some']
  cases b with
  | false => rw [Bool.not_false, condT, awake8, onOut_ret]
  | true =>
    obtain ⟨l1, l2⟩ := hb2 rfl
    have okr := recT_ok (ls := ls) (ts := ts) (by omega) hls oks
    rw [Bool.not_true, condF, Ty.refold, s7 _ ok, onOut_ret, bin_int, gtrI, bind_some', boolB, bind_some']
    refine cond_split (fun h1 => by rw [awake8, onOut_ret]) (fun h1 => ?_)
    have okf := fieldT_ok ok x
    rw [s25 _ _ (by omega), onOut_ret, tupS, bind_some', i0, bind_some', bind_some', i1, bind_some', aggS, bind_some', Ty.cells_len, b5, condT, s26 _ _ (by omega), onOut_ret, tupS, bind_some', i0, bind_some', bind_some', i1, bind_some', aggS, bind_some', Ty.cells_len, b5, condT,
      s27 _ ok, onOut_ret, tupS, bind_some', i0, bind_some', bind_some', i1, bind_some', aggS, bind_some', Ty.cells_len, b5, condT, s28 _ ok, onOut_ret, tupS, bind_some', i0, bind_some', bind_some', i1, bind_some', aggS, bind_some', Ty.cells_len, b5, condT,
      Ty.refold, s23 _ _ okr, onOut_ret, eqd_self, boolB, bind_some', condT, eqQ, bind_some', eqd_self, boolB, bind_some', condT, Ty.refold, s23 _ _ okf, onOut_ret, eqd_self, boolB, bind_some', condT, eqQ, bind_some', eqd_self, boolB, bind_some', condT,
      s29, onOut_ret, s30, onOut_ret, s23 _ _ (fnT_ok ok okr), onOut_ret, eqd_self, boolB, bind_some', condT, awake8, onOut_ret]

end Go.Sh.T.Q

/- What a row leans on. -/
namespace Go.Sh.T
open Go Go.Sh Go.Proofs
set_option linter.unusedSimpArgs false
set_option linter.unusedVariables false
theorem tys_of' {vs : List AV} (h : TypedC E 23 vs) : ∃ l : List Ty, vs = [.sl 5 (l.map Ty.cells)] ∧ l.length ≤ maxLen ∧ ∀ s ∈ l, s.Ok := by
  cases h with
  | bool h hd b => rw [ty23] at h; cases h; cases hd
  | int h hd hw => rw [ty23] at h; cases h; cases hd
  | str h hd hs => rw [ty23] at h; cases h; cases hd
  | struct h hd hf => rw [ty23] at h; cases h; cases hd
  | sl h hd hj hl hes =>
    rw [ty23] at h; cases h; cases hd
    rw [ty25] at hj; cases hj
    obtain ⟨l, rfl, hs⟩ := tys_of hes
    exact ⟨l, rfl, by simpa using hl, hs⟩
theorem str_of' {vs : List AV} (h : TypedC E 9 vs) : ∃ s, vs = [.lit (.string s)] ∧ s.size ≤ maxLen := str_of h ty9
def flatTs : List Nat := [3, 4, 5, 9, 22, 23, 25]
theorem flatTs_ok : flatAll E flatTs = true := by kernel_rfl

mutual
theorem dsz_le {H : Type} : ∀ d : DataW H, dsz d ≤ Ytbmgmgeliokalaa.Rows.uptoBulk d
  | .lit l => by cases l <;> simp [dsz, Ytbmgmgeliokalaa.Rows.uptoBulk]
  | .nil => by simp [dsz, Ytbmgmgeliokalaa.Rows.uptoBulk]
  | .ptr d => by simp [dsz, Ytbmgmgeliokalaa.Rows.uptoBulk]
  | .slice e s => by have := dszL_le e; simp only [dsz, Ytbmgmgeliokalaa.Rows.uptoBulk]; omega
  | .agg p => by have := dszL_le p; simp only [dsz, Ytbmgmgeliokalaa.Rows.uptoBulk]; omega
  | .iface _ d => by simp [dsz, Ytbmgmgeliokalaa.Rows.uptoBulk]
  | .map _ => by simp [dsz, Ytbmgmgeliokalaa.Rows.uptoBulk]
  | .held _ => by simp [dsz, Ytbmgmgeliokalaa.Rows.uptoBulk]
theorem dszL_le {H : Type} : ∀ l : List (DataW H), dszL l ≤ Ytbmgmgeliokalaa.Rows.uptoBulkAll l
  | [] => by simp [dszL, Ytbmgmgeliokalaa.Rows.uptoBulkAll]
  | d :: r => by have := dsz_le d; have := dszL_le r; simp only [dszL, Ytbmgmgeliokalaa.Rows.uptoBulkAll]; omega
end
theorem makes_row (ls : List ByteArray) (h1 : ls.length ≤ maxLen) (h2 : ∀ s ∈ ls, s.size ≤ maxLen) (ts : List Ty) (h3 : ts.length ≤ maxLen) (h4 : ∀ t ∈ ts, t.Ok) (t : Ty) (h5 : t.Ok) (x : ByteArray) (h6 : x.size ≤ maxLen) (h : Heap) (hh : h = []) : evw Q.E 5 [.sl 1 (ls.map strC), .sl 5 (ts.map Ty.cells), .agg t.cells, .lit (.string x)] h = some (.ret (.lit (.bool true)), h) := by subst hh; exact Q.tyMakes_law ls ts t x h2 h3 h4 h5
end Go.Sh.T
