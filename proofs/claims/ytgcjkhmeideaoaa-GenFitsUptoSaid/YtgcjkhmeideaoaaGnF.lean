/- GnF: part of the proof: a shadow of the machine that is proved sound, and what the functions of this seat compute. Conditions: none. -/
import Derived.Test.YtgcjkhmeideaoaaGnD
import Derived.Test.YtgcjkhmeideaoaaGnG
set_option linter.unusedSimpArgs false
/- GenFits: opening, and what may be below. -/
namespace Go.Sh.T
open Go Go.Sh Go.Proofs
set_option linter.unusedSimpArgs false
set_option linter.unusedVariables false
set_option maxRecDepth 100000

mutual
noncomputable def Ty.opd (l : List Ty) : Ty → Ty
  | ⟨k, m, s, ls, xs⟩ => bif eqd k 9 && decide (m < (l.length : Int)) then l.getD m.toNat zeroT else ⟨k, m, s, ls, Ty.opdL l xs⟩
noncomputable def Ty.opdL (l : List Ty) : List Ty → List Ty
  | [] => []
  | t :: r => t.opd l :: Ty.opdL l r
end
theorem Ty.opdL_map (l : List Ty) : ∀ xs : List Ty, Ty.opdL l xs = xs.map (Ty.opd l)
  | [] => by rw [Ty.opdL]; rfl
  | t :: r => by rw [Ty.opdL, Ty.opdL_map l r]; rfl
theorem Ty.opd_eq (l : List Ty) (t : Ty) : t.opd l = bif t.isU l.length then l.getD t.n.toNat zeroT else ⟨t.k, t.n, t.name, t.labels, t.args.map (Ty.opd l)⟩ := by
  cases t; rw [Ty.opd, Ty.opdL_map]; rfl
theorem opd_ok {l : List Ty} (ol : ∀ t ∈ l, t.Ok) : ∀ (m : Nat) (t : Ty), SizeOf.sizeOf t < m → t.Ok → (t.opd l).Ok
  | 0, t, hm, _ => by omega
  | m + 1, t, hm, ok => by
    rw [Ty.opd_eq]
    cases hu : t.isU l.length with
    | true =>
      rw [condT, List.getD_eq_getElem?_getD]
      cases hx : l[t.n.toNat]? with
      | none => exact zeroT_ok
      | some y => exact ol _ (List.mem_of_getElem? hx)
    | false =>
      rw [condF]
      cases ok with
      | mk h1 h2 h3 h4 h5 h6 h7 =>
        refine .mk h1 h2 h3 h4 h5 (by show (t.args.map _).length ≤ _; rw [List.length_map]; exact h6) (fun y hy => ?_)
        obtain ⟨x, hx, rfl⟩ := List.mem_map.1 hy
        have := arg_size hx
        exact opd_ok ol m x (by omega) (h7 x hx)
theorem pre_arg {t u : Ty} (h : u ∈ t.args) : u.pre.length < t.pre.length := by
  have : ∀ l : List Ty, u ∈ l → u.pre.length ≤ (Ty.preL l).length := fun l => by
    induction l with
    | nil => intro h; cases h
    | cons x r ih =>
      intro h
      rw [Ty.preL_cons, List.length_append]
      rcases List.mem_cons.1 h with e | e
      · rw [e]; omega
      · have := ih e; omega
  have := this _ h
  rw [Ty.pre_eq t, List.length_cons]; omega
theorem args_pre (t : Ty) : t.args.length ≤ t.pre.length := by
  have : ∀ l : List Ty, l.length ≤ (Ty.preL l).length := fun l => by
    induction l with
    | nil => exact Nat.zero_le _
    | cons x r ih => rw [Ty.preL_cons, List.length_append, Ty.pre_eq x, List.length_cons, List.length_cons]; omega
  have := this t.args
  rw [Ty.pre_eq, List.length_cons]; omega
theorem sub0 {n : Int} (h0 : 0 ≤ n) (h1 : n < 9223372036854775808) : sub64 n 0 = n := by unfold sub64; rw [Int.sub_zero, IntWalk.i64_in n (by omega)]
theorem right_u2 {t : Ty} (h : t.right = true) (hk : t.k = 9) : 0 ≤ t.n ∧ t.n ≤ 1073741824 := by
  refine ⟨right_u h hk, ?_⟩
  rw [Ty.right_eq, Bool.and_eq_true] at h
  have h2 := h.2
  unfold nodeR at h2
  rw [hk] at h2
  simp only [Bool.and_eq_true] at h2
  have h3 := h2.2
  simp only [show (decide ((9 : Int) ≥ 1) && decide ((9 : Int) ≤ 5)) = false from rfl, show ((9 : Int) == 6) = false from rfl, show ((9 : Int) == 9) = true from rfl, cond_false, cond_true, Bool.and_eq_true, decide_eq_true_eq] at h3
  omega
theorem opened38 (l : List Ty) (hl : l.length ≤ 1000) : ∀ (m : Nat) (t : Ty) (h : Heap), SizeOf.sizeOf t < m → t.Ok → t.right = true → t.pre.length ≤ 1048576 → evw E 38 [.agg t.cells, .lit (.int .i64 0), .sl 5 (l.map Ty.cells)] h = some (.ret (.agg (t.opd l).cells), h)
  | 0, t, h, hm, _, _, _ => by omega
  | m + 1, t, h, hm, ok, rt, hv => by
    have hlen := ok.len
    have ha : t.args.length ≤ 1048576 := Nat.le_trans (args_pre t) hv
    have mx : 1048576 + 1 ≤ maxApp := by decide
    have loop : t.isU l.length = false → ∀ (H0 : Heap) (q i : Nat), i ≤ t.args.length → t.args.length < q + i → Lp38_0 (evw E) (t.args.length + 1) H0 q h (.lit (.int .i64 0)) (.sl 5 (l.map Ty.cells)) (t.cells.getD 0 .dead) (t.cells.getD 1 .dead) (t.cells.getD 2 .dead) (t.cells.getD 3 .dead) (t.cells.getD 4 .dead) (.lit (.int .i64 0)) (.lit (.int .i64 0)) (.lit (.string ByteArray.empty)) [] [] (t.cells.getD 0 .dead) (t.cells.getD 1 .dead) (t.cells.getD 2 .dead) (t.cells.getD 3 .dead) (((t.args.take i).map (Ty.opd l)).map Ty.cells) (.lit (.int .i64 (i : Int))) = some (.ret (.agg (t.opd l).cells), h) := by
      intro hu H0 q
      induction q with
      | zero => intro i h1 h2; omega
      | succ q ih =>
        intro i h1 h2
        have e4 : lenA E 24 (t.cells.getD 4 .dead) = some (t.args.length : Int) := by rw [Ty.c4, lenA24, List.length_map]
        rw [Lp38_0_succ]
        simp only [e4, bind_some', bin_int, lssI, boolB]
        by_cases hi : i < t.args.length
        · have hmm := List.getElem_mem hi
          have hrec := opened38 l hl m t.args[i] h (by have := Ty.size_arg hi; omega) (ok.arg hmm) (right_arg rt hmm) (by have := pre_arg hmm; omega)
          have hbl : ∀ x : List AV, Nat.ble ((((t.args.take i).map (Ty.opd l)).map Ty.cells).length + ([x] : List (List AV)).length) maxApp = true := fun x => by
            rw [Nat.ble_eq, List.length_map, List.length_map, List.length_take, List.length_singleton]; omega
          have en : ((t.args.take i).map (Ty.opd l)).map Ty.cells ++ [((t.args[i]).opd l).cells] = ((t.args.take (i + 1)).map (Ty.opd l)).map Ty.cells := by
            rw [List.take_succ_eq_append_getElem hi, List.map_append, List.map_append]; rfl
          simp only [ltT hi, condT, atA t hi, bind_some', partA_full (Ty.cells_len _), hrec, onOut_ret, aggS, Ty.cells_len, b5, Ty.refold, hbl, bin_int, addI, incI (show i < 9223372036854775807 by omega), en]
          exact ih (i + 1) hi (by omega)
        · simp only [ltF hi, condF]
          rw [List.take_of_length_le (by omega), Ty.opd_eq, hu, condF, Ty.cells_eq ⟨t.k, t.n, t.name, t.labels, t.args.map (Ty.opd l)⟩, Ty.c0, Ty.c1, Ty.c2, Ty.c3]
    have eG : ∀ op : BinOp, binAV E op 3 (t.cells.getD 1 .dead) (.lit (.int .i64 0)) = intBin op .i64 t.n 0 := fun op => by rw [Ty.c1, bin_int]
    refine evw_run primsC (t.args.length + 1) rfl rfl rfl ?_
    rw [nf38]
    simp only [aggS, bind_some', Ty.cells_len, b5, condT, eT, eqlE, boolB, eG, geqI, subI, lenA24, List.length_map, bin_int, lssI]
    have l0 := fun hu => loop hu h (t.args.length + 1) 0 (Nat.zero_le _) (by omega)
    simp only [List.take_zero, List.map_nil] at l0
    have l0 : t.isU l.length = false → Lp38_0 (evw E) (t.args.length + 1) h (t.args.length + 1) h (.lit (.int .i64 0)) (.sl 5 (l.map Ty.cells)) (t.cells.getD 0 .dead) (t.cells.getD 1 .dead) (t.cells.getD 2 .dead) (t.cells.getD 3 .dead) (t.cells.getD 4 .dead) (.lit (.int .i64 0)) (.lit (.int .i64 0)) (.lit (.string ByteArray.empty)) [] [] (t.cells.getD 0 .dead) (t.cells.getD 1 .dead) (t.cells.getD 2 .dead) (t.cells.getD 3 .dead) [] (.lit (.int .i64 0)) = _ := l0
    cases h9 : eqd t.k 9 with
    | false =>
      have hu : t.isU l.length = false := by unfold Ty.isU; rw [h9]; rfl
      rw [condF, l0 hu]
    | true =>
      obtain ⟨n0, n1⟩ := right_u2 rt (eqd_iff.1 h9)
      rw [condT, decide_eq_true (show t.n ≥ 0 by omega), condT, sub0 n0 (by omega)]
      cases hc : decide (t.n < (l.length : Int)) with
      | false =>
        have hu : t.isU l.length = false := by unfold Ty.isU; rw [hc, Bool.and_false]
        rw [condF, l0 hu]
      | true =>
        have hu : t.isU l.length = true := by unfold Ty.isU; rw [hc, h9]; rfl
        have hlt : t.n < (l.length : Int) := by simpa using hc
        have hi : t.n.toNat < l.length := by omega
        have ix := indexA_map l Ty.cells 5 t.n.toNat hi
        rw [show ((t.n.toNat : Nat) : Int) = t.n by omega] at ix
        simp only [condT, ix, bind_some', partA_full (Ty.cells_len _), aggS, Ty.cells_len, b5, Ty.refold]
        rw [Ty.opd_eq, hu, condT, getD_at hi]
theorem fitting37 (t : Ty) (ok : t.Ok) (h : Heap) : ∃ c : Bool, evw E 37 [.agg t.cells] h = some (.ret (.tup [.agg (bif c then t else zeroT).cells, .lit (.bool c)]), h) := by
  refine ⟨decide (t.nodes ≤ 300), ?_⟩
  refine evw_run primsC 0 rfl rfl rfl ?_
  rw [nf37]
  simp only [aggS, bind_some', Ty.cells_len, b5, condT, Ty.refold, fits_spec t _ ok, onOut_ret, notB, boolB, ← zeroT_cells]
  cases decide (t.nodes ≤ 300) <;> rfl
theorem open18 (l : List Ty) (hl : l.length ≤ 1000) (ol : ∀ t ∈ l, t.Ok) (t : Ty) (ok : t.Ok) (rt : t.right = true) (hv : t.pre.length ≤ 1048576) (h : Heap) : ∃ c : Bool, evw E 18 [.agg t.cells, .lit (.int .i64 0), .sl 5 (l.map Ty.cells)] h = some (.ret (.tup [.agg (bif c then t.opd l else zeroT).cells, .lit (.bool c)]), h) := by
  obtain ⟨c, hc⟩ := fitting37 (t.opd l) (opd_ok ol _ t (Nat.lt_succ_self _) ok) h
  refine ⟨c, evw_run primsC 0 rfl rfl rfl ?_⟩
  rw [nf18]
  simp only [aggS, bind_some', Ty.cells_len, b5, condT, condF, Ty.refold, bin_int, lssI, gtrI, boolB, show decide ((0 : Int) < 0) = false from rfl, show decide ((0 : Int) > 1073741824) = false from rfl, opened38 l hl _ t h (Nat.lt_succ_self _) ok rt hv, onOut_ret, hc, tupS, t20, t21]

/- the reference's bounds, more of it -/
theorem right17 (d : List Bind) (hd : d.length ≤ 1000) (od : ∀ b ∈ d, b.Ok) (h : Heap) : ∃ c : Bool, evw E 17 [.sl 6 (d.map Bind.cells)] h = some (.ret (.lit (.bool c)), h) ∧ (c = true → ∀ b ∈ d, b.ty.right = true ∧ b.ty.has 6 = false) := by
  have loop : ∀ (q i : Nat), i ≤ d.length → d.length < q + i → ∃ c : Bool, Lp17_0 (evw E) (d.length + 1) h q h (.sl 6 (d.map Bind.cells)) (.lit (.int .i64 (i : Int))) = some (.ret (.lit (.bool c)), h) ∧ (c = true → ∀ (j : Nat) (b : Bind), i ≤ j → d[j]? = some b → b.ty.right = true ∧ b.ty.has 6 = false) := by
    intro q
    induction q with
    | zero => intro i h1 h2; omega
    | succ q ih =>
      intro i h1 h2
      rw [Lp17_0_succ, lenA22, bind_some', List.length_map, bin_int, lssI, bind_some', boolB, bind_some']
      by_cases hi : i < d.length
      · have ob := od _ (List.getElem_mem hi)
        have hpl := place_ref ((d.take i).map Bind.name) (by rw [List.length_map, List.length_take]; exact Nat.le_trans (Nat.min_le_right _ _) (Nat.le_trans hd (by decide))) (d[i]).name h
        have hnm := names45 (d.take i) (by rw [List.length_take]; omega) h
        simp only [ltT hi, condT, indexA_map _ _ _ _ hi, bind_some', Bind.len, show Nat.ble 1 6 = true from rfl, show Nat.ble 0 6 = true from rfl, Bind.p1, Bind.p0, aggS, Ty.cells_len, b5, var_spec, onOut_ret, notB, boolB, take22 d i h1, hnm, hpl, bin_int, geqI, Ty.refold, right_spec _ _ ob.ty, closed_spec _ _ ob.ty, has_spec _ _ _ ob.ty]
        cases kindR (d[i]).name == 2 with
        | false => exact ⟨false, rfl, fun e => by cases e⟩
        | true =>
        cases decide (idxR ((d.take i).map Bind.name) 0 (d[i]).name ≥ 0) with
        | true => exact ⟨false, rfl, fun e => by cases e⟩
        | false =>
        cases hr : (d[i]).ty.right with
        | false => exact ⟨false, rfl, fun e => by cases e⟩
        | true =>
        cases h6 : (d[i]).ty.has 6 with
        | true => exact ⟨false, rfl, fun e => by cases e⟩
        | false =>
        cases (d[i]).ty.has 9 with
        | true => exact ⟨false, rfl, fun e => by cases e⟩
        | false =>
          obtain ⟨c, h3, h4⟩ := ih (i + 1) hi (by omega)
          refine ⟨c, ?_, fun e j b hj hb => ?_⟩
          · simp only [Bool.not_true, Bool.not_false, condT, condF, bin_int, addI, bind_some', incI (show i < 9223372036854775807 by omega)]
            exact h3
          · by_cases hji : j = i
            · rw [hji, List.getElem?_eq_getElem hi] at hb
              rw [← Option.some.inj hb]; exact ⟨hr, h6⟩
            · exact h4 e j b (by omega) hb
      · rw [ltF hi, condF]
        exact ⟨true, rfl, fun _ j b hj hb => by have := (List.getElem?_eq_some_iff.1 hb).1; omega⟩
  obtain ⟨c, h1, h2⟩ := loop (d.length + 1) 0 (Nat.zero_le _) (by omega)
  refine ⟨c, evw_run primsC (d.length + 1) rfl rfl rfl (by rw [nf17]; exact h1), fun e b hb => ?_⟩
  obtain ⟨j, hj⟩ := List.mem_iff_getElem?.1 hb
  exact h2 e j b (Nat.zero_le _) hj
end Go.Sh.T

/- GenFits: what may be below, counted. -/
namespace Go.Sh.T
open Go Go.Sh Go.Proofs
set_option linter.unusedSimpArgs false
set_option linter.unusedVariables false
set_option maxRecDepth 100000

/-- May be below, with fuel. -/
noncomputable def mayB (d : List Bind) : Nat → Ty → Ty → Bool
  | 0, _, _ => false
  | m + 1, a, b =>
    bif eqd b.k 4 then true else bif eqd a.k 5 then true else bif eqd b.k 5 then true else
    bif eqd a.k 6 then (bif eqd a b then true else match findB d a.name with | none => false | some u => mayB d m u b) else
    bif eqd a.k 7 && eqd b.k 7 then mayB d m (b.args.getD 0 zeroT) (a.args.getD 0 zeroT) && mayB d m (a.args.getD 1 zeroT) (b.args.getD 1 zeroT) else
    bif eqd a.k 8 && eqd b.k 8 then (List.range' 0 b.labels.length).all (fun i => match fieldT a (b.labels.getD i ByteArray.empty) with | none => false | some t => mayB d m t (b.args.getD i zeroT)) else
    eqd a b
theorem mayB_mono (d : List Bind) : ∀ (m : Nat) (a b : Ty), mayB d m a b = true → mayB d (m + 1) a b = true
  | 0, a, b, h => by cases h
  | m + 1, a, b, h => by
    have ih := mayB_mono d m
    rw [mayB] at h ⊢
    cases h1 : eqd b.k 4 with
    | true => rfl
    | false =>
    rw [h1, condF] at h; rw [condF]
    cases h2 : eqd a.k 5 with
    | true => rfl
    | false =>
    rw [h2, condF] at h; rw [condF]
    cases h3 : eqd b.k 5 with
    | true => rfl
    | false =>
    rw [h3, condF] at h; rw [condF]
    cases h4 : eqd a.k 6 with
    | true =>
      rw [h4, condT] at h; rw [condT]
      cases h5 : eqd a b with
      | true => rfl
      | false =>
        rw [h5, condF] at h; rw [condF]
        cases hf : findB d a.name with
        | none => rw [hf] at h; cases h
        | some u => rw [hf] at h; exact ih _ _ h
    | false =>
    rw [h4, condF] at h; rw [condF]
    cases h5 : eqd a.k 7 && eqd b.k 7 with
    | true =>
      rw [h5, condT, Bool.and_eq_true] at h
      rw [condT, Bool.and_eq_true]
      exact ⟨ih _ _ h.1, ih _ _ h.2⟩
    | false =>
    rw [h5, condF] at h; rw [condF]
    cases h6 : eqd a.k 8 && eqd b.k 8 with
    | true =>
      rw [h6, condT, List.all_eq_true] at h
      rw [condT, List.all_eq_true]
      intro i hi
      have := h i hi
      cases hf : fieldT a (b.labels.getD i ByteArray.empty) with
      | none => rw [hf] at this; cases this
      | some t => rw [hf] at this; exact ih _ _ this
    | false => rw [h6, condF] at h; rw [condF]; exact h
theorem mayB_up (d : List Bind) {m n : Nat} (h : m ≤ n) {a b : Ty} (hm : mayB d m a b = true) : mayB d n a b = true := by
  induction h with
  | refl => exact hm
  | step _ ih => exact mayB_mono d _ a b ih
/-- May be below, with some fuel. -/
def MayR (d : List Bind) (a b : Ty) : Prop := ∃ m, mayB d m a b = true

mutual
noncomputable def Ty.wt (B : Nat) : Ty → Nat
  | ⟨k, _, _, _, xs⟩ => 1 + (bif eqd k 6 then B + 1 else 0) + Ty.wtL B xs
noncomputable def Ty.wtL (B : Nat) : List Ty → Nat
  | [] => 0
  | t :: r => t.wt B + Ty.wtL B r
end
theorem wt_eq (B : Nat) (t : Ty) : t.wt B = 1 + (bif eqd t.k 6 then B + 1 else 0) + Ty.wtL B t.args := by cases t; rw [Ty.wt]
theorem wtL_mem {B : Nat} : ∀ {l : List Ty} {t : Ty}, t ∈ l → t.wt B ≤ Ty.wtL B l
  | x :: r, t, h => by
    rw [Ty.wtL]
    rcases List.mem_cons.1 h with e | e
    · rw [e]; omega
    · have := wtL_mem (B := B) e; omega
theorem wt_arg {B : Nat} {t u : Ty} (h : u ∈ t.args) : u.wt B < t.wt B := by
  have := wtL_mem (B := B) h
  rw [wt_eq B t]; omega
mutual
theorem wt_closed (B C : Nat) : ∀ t : Ty, t.has 6 = false → t.wt B = t.wt C
  | ⟨k, n, s, ls, xs⟩, h => by
    rw [Ty.has, Bool.or_eq_false_iff] at h
    have h1 : eqd k 6 = false := eqdN (by simpa using h.1)
    rw [Ty.wt, Ty.wt, h1, wtL_closed B C xs h.2]; rfl
theorem wtL_closed (B C : Nat) : ∀ l : List Ty, Ty.hasL 6 l = false → Ty.wtL B l = Ty.wtL C l
  | [], _ => by rw [Ty.wtL, Ty.wtL]
  | t :: r, h => by
    rw [Ty.hasL, Bool.or_eq_false_iff] at h
    rw [Ty.wtL, Ty.wtL, wt_closed B C t h.1, wtL_closed B C r h.2]
end
noncomputable def bW : List Bind → Nat
  | [] => 0
  | b :: r => b.ty.wt 0 + bW r
theorem bW_mem : ∀ {d : List Bind} {b : Bind}, b ∈ d → b.ty.wt 0 ≤ bW d
  | x :: r, b, h => by
    rw [bW]
    rcases List.mem_cons.1 h with e | e
    · rw [e]; omega
    · have := bW_mem e; omega
def Closed (d : List Bind) : Prop := ∀ b ∈ d, b.ty.right = true ∧ b.ty.has 6 = false
theorem find_wt {d : List Bind} (hc : Closed d) {s : ByteArray} {u : Ty} (h : findB d s = some u) : u.wt (bW d) ≤ bW d := by
  obtain ⟨b, h1, h2⟩ := findB_mem h
  rw [← h2, wt_closed (bW d) 0 _ (hc b h1).2]
  exact bW_mem h1
theorem rightC {d : List Bind} (hc : Closed d) {s : ByteArray} {u : Ty} (h : findB d s = some u) : u.right = true ∧ u.k ≠ 6 := by
  obtain ⟨b, h1, h2⟩ := findB_mem h
  rw [← h2]
  refine ⟨(hc b h1).1, fun e => ?_⟩
  have := (hc b h1).2
  rw [Ty.has_eq, Bool.or_eq_false_iff] at this
  rw [e] at this
  simp at this
/-- The reference's May tells just that, with fuel enough. -/
theorem may39 (d : List Bind) (hd : d.length ≤ 1000) (od : ∀ b ∈ d, b.Ok) (hc : Closed d) : ∀ (m : Nat) (a b : Ty) (h : Heap), a.wt (bW d) + b.wt (bW d) < m → a.Ok → b.Ok → a.right = true → b.right = true → evw E 39 [.sl 6 (d.map Bind.cells), .agg a.cells, .agg b.cells] h = some (.ret (.lit (.bool (mayB d m a b))), h)
  | 0, a, b, h, hm, _, _, _, _ => by omega
  | m + 1, a, b, h, hm, oa, ob, ra, rb => by
    have IH := may39 d hd od hc m
    have hlb : b.labels.length ≤ 9223372036854775807 := ob.lab
    have loop : b.k = 8 → ∀ (H0 : Heap) (q i : Nat), i ≤ b.labels.length → b.labels.length < q + i → Lp39_0 (evw E) (b.labels.length + 1) H0 q h (.sl 6 (d.map Bind.cells)) (a.cells.getD 0 .dead) (a.cells.getD 1 .dead) (a.cells.getD 2 .dead) (a.cells.getD 3 .dead) (a.cells.getD 4 .dead) (b.cells.getD 0 .dead) (b.cells.getD 1 .dead) (b.cells.getD 2 .dead) (b.cells.getD 3 .dead) (b.cells.getD 4 .dead) (.lit (.int .i64 (i : Int))) =
        some (.ret (.lit (.bool ((List.range' i (b.labels.length - i)).all (fun i => match fieldT a (b.labels.getD i ByteArray.empty) with | none => false | some t => mayB d m t (b.args.getD i zeroT))))), h) := by
      intro k8 H0 q
      have hb8 := right_rec rb k8
      induction q with
      | zero => intro i h1 h2; omega
      | succ q ih =>
        intro i h1 h2
        rw [Lp39_0_succ]
        simp only [lenL, bind_some', bin_int, lssI, boolB]
        by_cases hi : i < b.labels.length
        · have hi2 : i < b.args.length := by omega
          obtain ⟨r, hr0⟩ : ∃ r, b.labels.length - i = r + 1 := ⟨b.labels.length - i - 1, by omega⟩
          have hr1 : r = b.labels.length - (i + 1) := by omega
          rw [hr0, range'_cons, List.all_cons, getD_at hi, getD_at hi2]
          simp only [ltT hi, condT, atL b hi, atA b hi2, bind_some', part_str, partA_full (Ty.cells_len _), Ty.refold, field116 a oa, onOut_ret, tupS, t20, t21, aggS, Ty.cells_len, b5, notB, boolB]
          cases hM : fieldT a b.labels[i] with
          | none => rfl
          | some g =>
            obtain ⟨gm, _⟩ := fieldT_mem hM
            have g1 := wt_arg (B := bW d) gm
            have g2 := wt_arg (B := bW d) (List.getElem_mem hi2)
            have i1 := IH g b.args[i] h (by omega) (oa.arg gm) (ob.arg (List.getElem_mem hi2)) (right_arg ra gm) (right_arg rb (List.getElem_mem hi2))
            simp only [Option.isSome_some, Bool.not_true, condF, Option.getD_some, i1, onOut_ret, notB, bind_some', boolB, bin_int, addI, incI (show i < 9223372036854775807 by omega)]
            cases mayB d m g b.args[i] with
            | false => rfl
            | true =>
              rw [hr1]
              exact ih (i + 1) hi (by omega)
        · rw [show b.labels.length - i = 0 by omega]
          simp only [ltF hi, condF]; rfl
    refine evw_run primsC (b.labels.length + 1) rfl rfl rfl ?_
    rw [nf39]
    simp only [aggS, bind_some', Ty.cells_len, b5, condT, Ty.refold, eT, eqlE, boolB, same23 _ _ _ oa, onOut_ret, up41 d hd, tupS, t20, t21]
    rw [mayB]
    cases h1 : eqd b.k 4 with
    | true => rfl
    | false =>
    rw [condF, condF]
    cases h2 : eqd a.k 5 with
    | true => rfl
    | false =>
    rw [condF, condF]
    cases h3 : eqd b.k 5 with
    | true => rfl
    | false =>
    rw [condF, condF]
    cases h4 : eqd a.k 6 with
    | true =>
      rw [condT, condT]
      cases h5 : eqd a b with
      | true => rfl
      | false =>
        rw [condF, condF]
        have hup : upT d a = (match findB d a.name with | some u => (u, true) | none => (a, false)) := by unfold upT; rw [h4, cond_true] <;> rfl
        rw [hup]
        cases hf : findB d a.name with
        | none => rfl
        | some u =>
          obtain ⟨bb, hb1, hb2⟩ := findB_mem hf
          have hwu := find_wt hc hf
          have hwa : bW d + 1 < a.wt (bW d) := by rw [wt_eq, h4, condT]; omega
          have i1 := IH u b h (by omega) (by rw [← hb2]; exact (od bb hb1).ty) ob (rightC hc hf).1 rb
          show cond true (onOut (evw E 39 [.sl 6 (d.map Bind.cells), .agg u.cells, .agg b.cells] h) _ _ _) _ = some (Out.ret (.lit (.bool (mayB d m u b))), h)
          rw [condT, i1, onOut_ret]
    | false =>
    rw [condF, condF]
    cases h7 : eqd a.k 7 with
    | true =>
      rw [condT]
      cases h7b : eqd b.k 7 with
      | true =>
        have la := right_fn ra (eqd_iff.1 h7)
        have lb := right_fn rb (eqd_iff.1 h7b)
        have a0 : 0 < a.args.length := by omega
        have a1 : 1 < a.args.length := by omega
        have b0 : 0 < b.args.length := by omega
        have b1 : 1 < b.args.length := by omega
        have x0 := wt_arg (B := bW d) (List.getElem_mem a0)
        have x1 := wt_arg (B := bW d) (List.getElem_mem a1)
        have y0 := wt_arg (B := bW d) (List.getElem_mem b0)
        have y1 := wt_arg (B := bW d) (List.getElem_mem b1)
        have i0 := IH b.args[0] a.args[0] h (by omega) (ob.arg (List.getElem_mem b0)) (oa.arg (List.getElem_mem a0)) (right_arg rb (List.getElem_mem b0)) (right_arg ra (List.getElem_mem a0))
        have i1 := IH a.args[1] b.args[1] h (by omega) (oa.arg (List.getElem_mem a1)) (ob.arg (List.getElem_mem b1)) (right_arg ra (List.getElem_mem a1)) (right_arg rb (List.getElem_mem b1))
        simp only [Bool.and_self, condT, atA0 a a0, atA0 b b0, atA1 a a1, atA1 b b1, bind_some', partA_full (Ty.cells_len _), i0, i1, onOut_ret, boolB, getD_at a0, getD_at a1, getD_at b0, getD_at b1]
        cases mayB d m b.args[0] a.args[0] <;> rfl
      | false =>
        have n8 : eqd a.k 8 = false := eqdN (by rw [eqd_iff.1 h7]; decide)
        simp only [condF, n8, Bool.and_false, Bool.false_and]
    | false =>
      rw [condF, Bool.false_and, condF]
      cases h8 : eqd a.k 8 with
      | false => rfl
      | true =>
        rw [condT, Bool.true_and]
        cases h8b : eqd b.k 8 with
        | false => rfl
        | true => exact loop (eqd_iff.1 h8b) h (b.labels.length + 1) 0 (Nat.zero_le _) (by omega)
theorem may_iff (d : List Bind) (hd : d.length ≤ 1000) (od : ∀ b ∈ d, b.Ok) (hc : Closed d) (a b : Ty) (h : Heap) (oa : a.Ok) (ob : b.Ok) (ra : a.right = true) (rb : b.right = true) : ∃ c : Bool, evw E 39 [.sl 6 (d.map Bind.cells), .agg a.cells, .agg b.cells] h = some (.ret (.lit (.bool c)), h) ∧ (c = true ↔ MayR d a b) := by
  have h0 := may39 d hd od hc _ a b h (Nat.lt_succ_self _) oa ob ra rb
  refine ⟨_, h0, fun e => ⟨_, e⟩, fun ⟨m, hm⟩ => ?_⟩
  have h1 := may39 d hd od hc (a.wt (bW d) + b.wt (bW d) + 1 + m) a b h (by omega) oa ob ra rb
  rw [mayB_up d (by omega) hm, h0] at h1
  have h2 := congrArg (fun x : R => x.map Prod.fst) h1
  simpa using h2
end Go.Sh.T

/- GenFits: where some types fit. -/
namespace Go.Sh.T
open Go Go.Sh Go.Proofs
set_option linter.unusedSimpArgs false
set_option linter.unusedVariables false
set_option maxRecDepth 100000

theorem MayR.dynL {d : List Bind} {a b : Ty} (h : a.k = 5) : MayR d a b := ⟨1, by rw [mayB, h, eqd_self]; cases eqd b.k 4 <;> rfl⟩
theorem MayR.dynR {d : List Bind} {a b : Ty} (h : b.k = 5) : MayR d a b := ⟨1, by rw [mayB, h, eqd_self]; cases eqd a.k 5 <;> cases eqd (5 : Int) 4 <;> rfl⟩
/-- What may be below tells. -/
theorem MayR.inv {d : List Bind} {a b : Ty} (h : MayR d a b) (b4 : b.k ≠ 4) (a5 : a.k ≠ 5) (b5 : b.k ≠ 5) :
    (a.k = 6 ∧ (a = b ∨ ∃ u, findB d a.name = some u ∧ MayR d u b)) ∨
    (a.k = 7 ∧ b.k = 7 ∧ MayR d (b.args.getD 0 zeroT) (a.args.getD 0 zeroT) ∧ MayR d (a.args.getD 1 zeroT) (b.args.getD 1 zeroT)) ∨
    (a.k = 8 ∧ b.k = 8 ∧ ∀ i, i < b.labels.length → ∃ t, fieldT a (b.labels.getD i ByteArray.empty) = some t ∧ MayR d t (b.args.getD i zeroT)) ∨
    (a = b ∧ a.k ≠ 6 ∧ a.k ≠ 7 ∧ a.k ≠ 8) := by
  obtain ⟨m, h⟩ := h
  cases m with
  | zero => cases h
  | succ m =>
    rw [mayB, eqdN b4, eqdN a5, eqdN b5, condF, condF, condF] at h
    cases h6 : eqd a.k 6 with
    | true =>
      rw [h6, condT] at h
      refine .inl ⟨eqd_iff.1 h6, ?_⟩
      cases he : eqd a b with
      | true => exact .inl (eqd_iff.1 he)
      | false =>
        rw [he, condF] at h
        cases hf : findB d a.name with
        | none => rw [hf] at h; cases h
        | some u => rw [hf] at h; exact .inr ⟨u, rfl, m, h⟩
    | false =>
    have n6 : a.k ≠ 6 := eqd_ne h6
    rw [h6, condF] at h
    cases h7 : eqd a.k 7 && eqd b.k 7 with
    | true =>
      rw [h7, condT, Bool.and_eq_true] at h
      rw [Bool.and_eq_true] at h7
      exact .inr (.inl ⟨eqd_iff.1 h7.1, eqd_iff.1 h7.2, ⟨m, h.1⟩, ⟨m, h.2⟩⟩)
    | false =>
    rw [h7, condF] at h
    cases h8 : eqd a.k 8 && eqd b.k 8 with
    | true =>
      rw [h8, condT, List.all_eq_true] at h
      rw [Bool.and_eq_true] at h8
      refine .inr (.inr (.inl ⟨eqd_iff.1 h8.1, eqd_iff.1 h8.2, fun i hi => ?_⟩))
      have := h i (List.mem_range'_1.2 ⟨Nat.zero_le _, by omega⟩)
      cases hf : fieldT a (b.labels.getD i ByteArray.empty) with
      | none => rw [hf] at this; cases this
      | some t => rw [hf] at this; exact ⟨t, rfl, m, this⟩
    | false =>
      rw [h8, condF] at h
      have e := eqd_iff.1 h
      refine .inr (.inr (.inr ⟨e, n6, fun k => ?_, fun k => ?_⟩))
      · rw [← e, k, eqd_self] at h7; cases h7
      · rw [← e, k, eqd_self] at h8; cases h8
theorem rising_kind : ∀ {l : List ByteArray} {p : Option ByteArray}, risingR l p = true → ∀ x ∈ l, (kindR x == 1) = true
  | y :: r, p, h, x, hx => by
    rw [risingR, Bool.and_eq_true, Bool.and_eq_true] at h
    rcases List.mem_cons.1 hx with e | e
    · rw [e]; exact h.1.1
    · exact rising_kind h.2 x e
def Fit (d : List Bind) (l : List Ty) (e : Ev) : Prop := e.n < l.length ∧ (l.getD e.n zeroT).right = true ∧ (bif e.up then MayR d (l.getD e.n zeroT) e.t else MayR d e.t (l.getD e.n zeroT))
theorem sq_fit {G : Ev → Prop} {x y : Asked} (hx : x.2 = false ∧ ∀ e ∈ x.1, G e) (hy : y.2 = false ∧ ∀ e ∈ y.1, G e) : (sq x y).2 = false ∧ ∀ e ∈ (sq x y).1, G e := by
  refine ⟨by unfold sq; rw [hx.1]; exact hy.1, fun e he => ?_⟩
  rcases sq_mem he with h | h
  · exact hx.2 e h
  · exact hy.2 e h
theorem sqs_fit {G : Ev → Prop} : ∀ {l : List Asked}, (∀ x ∈ l, x.2 = false ∧ ∀ e ∈ x.1, G e) → (sqs l).2 = false ∧ ∀ e ∈ (sqs l).1, G e
  | [], _ => ⟨rfl, fun e he => by cases he⟩
  | x :: r, h => sq_fit (h x List.mem_cons_self) (sqs_fit fun y hy => h y (List.mem_cons_of_mem _ hy))
theorem opd_no {l : List Ty} {p : Ty} (hu : p.isU l.length = false) : p.opd l = ⟨p.k, p.n, p.name, p.labels, p.args.map (Ty.opd l)⟩ := by rw [Ty.opd_eq, hu, condF]
theorem opd_u {l : List Ty} {p : Ty} (hu : p.isU l.length = true) : p.opd l = l.getD p.n.toNat zeroT := by rw [Ty.opd_eq, hu, condT]
theorem opd_arg {l : List Ty} {p u : Ty} (hu : p.isU l.length = false) (hr : (p.opd l).right = true) (h : u ∈ p.args) : (u.opd l).right = true := by
  rw [opd_no hu] at hr
  exact right_arg hr (List.mem_map.2 ⟨u, h, rfl⟩)
theorem field_opd (l : List Ty) (p : Ty) (x : ByteArray) : fieldT ⟨p.k, p.n, p.name, p.labels, p.args.map (Ty.opd l)⟩ x = (fieldT p x).map (Ty.opd l) := by
  unfold fieldT
  show (bif eqd p.k 8 then (ix p.labels x).bind fun i => (p.args.map (Ty.opd l))[i]? else none) = _
  cases eqd p.k 8 with
  | false => rfl
  | true =>
    rw [condT, condT]
    cases ix p.labels x with
    | none => rfl
    | some i => rw [Option.bind_some, Option.bind_some, List.getElem?_map]
theorem opn_fit (d : List Bind) (l : List Ty) : ∀ (m : Nat) (t : Ty) (b : Bool), SizeOf.sizeOf t < m → t.right = true → (t.opd l).right = true → ∀ e ∈ t.opn l.length b, Fit d l e
  | 0, t, b, hm, _, _ => by omega
  | m + 1, t, b, hm, rt, hr => by
    have IH := opn_fit d l m
    have hL : ∀ (b : Bool) (xs : List Ty), (∀ x ∈ xs, x ∈ t.args) → t.isU l.length = false → ∀ e ∈ Ty.opnL l.length b xs, Fit d l e := fun b xs => by
      induction xs with
      | nil => intro _ _ e he; rw [Ty.opnL] at he; cases he
      | cons x r ih =>
        intro hs hu e he
        rw [Ty.opnL] at he
        rcases List.mem_append.1 he with h | h
        · have hx := hs x List.mem_cons_self
          exact IH x b (by have := arg_size hx; omega) (right_arg rt hx) (opd_arg hu hr hx) e h
        · exact ih (fun y hy => hs y (List.mem_cons_of_mem _ hy)) hu e h
    intro e he
    rw [Ty.opn_eq] at he
    cases hu : t.isU l.length with
    | true =>
      rw [hu, condT] at he
      obtain ⟨k9, kn⟩ := isU_k hu
      have n0 := right_u rt k9
      rw [List.mem_singleton.1 he]
      rw [opd_u hu] at hr
      exact ⟨by show t.n.toNat < _; omega, hr, by
        show (bif b then MayR d _ dynT else MayR d dynT _)
        cases b with
        | true => exact MayR.dynR rfl
        | false => exact MayR.dynL rfl⟩
    | false =>
      rw [hu, condF] at he
      cases h7 : eqd t.k 7 with
      | false => rw [h7, condF] at he; exact hL b t.args (fun _ h => h) hu e he
      | true =>
        rw [h7, condT] at he
        have lt := right_fn rt (eqd_iff.1 h7)
        have a0 : 0 < t.args.length := by omega
        rw [opnF_cons _ _ a0] at he
        rcases List.mem_append.1 he with h | h
        · have hx := List.getElem_mem a0
          exact IH t.args[0] (!b) (by have := arg_size hx; omega) (right_arg rt hx) (opd_arg hu hr hx) e h
        · exact hL b _ (fun x hx => List.mem_of_mem_drop hx) hu e h
theorem upT_no {d : List Bind} {s : Ty} (h : s.k ≠ 6) : (upT d s).1 = s := by unfold upT; rw [eqdN h]; rfl
theorem upT_var {d : List Bind} {s u : Ty} (h : s.k = 6) (hf : findB d s.name = some u) : (upT d s).1 = u := by unfold upT; rw [h, eqd_self, condT, hf]
theorem may_up {d : List Bind} (hc : Closed d) {s q : Ty} (h : MayR d s q) (rs : s.right = true) (s5 : s.k ≠ 5) (q4 : q.k ≠ 4) (q5 : q.k ≠ 5) (q6 : q.k ≠ 6) : (upT d s).1.right = true ∧ (upT d s).1.k ≠ 6 ∧ MayR d (upT d s).1 q := by
  by_cases h6 : s.k = 6
  · rcases h.inv q4 s5 q5 with h | h | h | h
    · rcases h.2 with e | ⟨u, hf, hm⟩
      · rw [← e] at q6; exact absurd h6 q6
      · rw [upT_var h6 hf]; exact ⟨(rightC hc hf).1, (rightC hc hf).2, hm⟩
    · omega
    · omega
    · exact absurd h6 h.2.1
  · rw [upT_no h6]; exact ⟨rs, h6, h⟩
theorem funM_of {d : List Bind} {s : Ty} (rs : s.right = true) (ru : (upT d s).1.right = true) (h5 : (upT d s).1.k ≠ 5) (h7 : (upT d s).1.k = 7) : funM d s = some (upT d s).1 := by
  unfold funM; rw [rs, ru, eqdN h5, eqd_of h7]; rfl
theorem funM_dyn {d : List Bind} {s : Ty} (rs : s.right = true) (ru : (upT d s).1.right = true) (h5 : (upT d s).1.k = 5) : funM d s = some (fnT (upT d s).1 (upT d s).1) := by
  unfold funM; rw [rs, ru, eqd_of h5]; rfl
theorem fieldM_dyn {d : List Bind} {s : Ty} {x : ByteArray} (rs : s.right = true) (ru : (upT d s).1.right = true) (hx : (kindR x == 1) = true) (h5 : (upT d s).1.k = 5) : fieldM d s x = some (recT1 x (upT d s).1, (upT d s).1) := by
  unfold fieldM; rw [rs, ru, hx, eqd_of h5]; rfl
theorem fieldM_of {d : List Bind} {s g : Ty} {x : ByteArray} (rs : s.right = true) (ru : (upT d s).1.right = true) (hx : (kindR x == 1) = true) (h5 : (upT d s).1.k ≠ 5) (h8 : (upT d s).1.k = 8) (hf : fieldT (upT d s).1 x = some g) : fieldM d s x = some ((upT d s).1, g) := by
  unfold fieldM; rw [rs, ru, hx, eqdN h5, eqd_of h8, hf]; rfl
theorem map_getD {l : List Ty} {xs : List Ty} {i : Nat} (h : i < xs.length) : (xs.map (Ty.opd l)).getD i zeroT = (xs[i]).opd l := by
  rw [getD_at (by rw [List.length_map]; exact h), List.getElem_map]
/-- Where some types fit, nothing is what it must not be, and each type fits. -/
theorem ask_fit {d : List Bind} (hc : Closed d) (l : List Ty) : ∀ (m : Nat) (s p : Ty), SizeOf.sizeOf p < m → s.right = true → p.right = true → (p.opd l).right = true →
    (MayR d s (p.opd l) → (ask d l.length m true s p).2 = false ∧ ∀ e ∈ (ask d l.length m true s p).1, Fit d l e) ∧
    (MayR d (p.opd l) s → (ask d l.length m false s p).2 = false ∧ ∀ e ∈ (ask d l.length m false s p).1, Fit d l e)
  | 0, s, p, hm, _, _, _ => by omega
  | m + 1, s, p, hm, rs, rp, rq => by
    have IH := ask_fit hc l m
    have hz : (([], false) : Asked).2 = false ∧ ∀ e ∈ (([], false) : Asked).1, Fit d l e := ⟨rfl, fun e he => by cases he⟩
    refine ⟨fun hmay => ?_, fun hmay => ?_⟩
    · rw [ask]
      cases hh : p.hasU l.length with
      | false => exact hz
      | true =>
      rw [Bool.not_true, condF]
      cases hu : p.isU l.length with
      | true =>
        obtain ⟨k9, kn⟩ := isU_k hu
        have n0 := right_u rp k9
        rw [condT]
        refine ⟨rfl, fun e he => ?_⟩
        have he : e ∈ [(⟨!true, p.n.toNat, s⟩ : Ev)] := he
        rw [List.mem_singleton.1 he]
        rw [opd_u hu] at rq hmay
        exact ⟨by show p.n.toNat < _; omega, rq, hmay⟩
      | false =>
      rw [condF]
      cases h5 : eqd s.k 5 with
      | true => exact ⟨rfl, opn_fit d l _ p _ (Nat.lt_succ_self _) rp rq⟩
      | false =>
      rw [condF, condT]
      have s5 := eqd_ne h5
      have k78 := isU_arg rp hh hu
      have hq := opd_no hu
      have qk : (p.opd l).k = p.k := by rw [hq]
      obtain ⟨ru, u6, hmu⟩ := may_up hc hmay rs s5 (by omega) (by omega) (by omega)
      cases h7 : eqd p.k 7 with
      | true =>
        have k7 := eqd_iff.1 h7
        have lp := right_fn rp k7
        have p0 : 0 < p.args.length := by omega
        have p1 : 1 < p.args.length := by omega
        rw [condT]
        have r0 := opd_arg hu rq (List.getElem_mem p0)
        have r1 := opd_arg hu rq (List.getElem_mem p1)
        have fin : ∀ f : Ty, f.right = true → f.k = 7 → funM d s = some f → MayR d ((p.args[0]).opd l) (f.args.getD 0 zeroT) → MayR d (f.args.getD 1 zeroT) ((p.args[1]).opd l) →
            (match funM d s with | none => (([], true) : Asked) | some f => sq (ask d l.length m false (f.args.getD 0 zeroT) (p.args.getD 0 zeroT)) (ask d l.length m true (f.args.getD 1 zeroT) (p.args.getD 1 zeroT))).2 = false ∧
            ∀ e ∈ (match funM d s with | none => (([], true) : Asked) | some f => sq (ask d l.length m false (f.args.getD 0 zeroT) (p.args.getD 0 zeroT)) (ask d l.length m true (f.args.getD 1 zeroT) (p.args.getD 1 zeroT))).1, Fit d l e := fun f rf f7 hf m0 m1 => by
          have lf := right_fn rf f7
          have f0 : 0 < f.args.length := by omega
          have f1 : 1 < f.args.length := by omega
          rw [hf]
          show (sq _ _).2 = false ∧ ∀ e ∈ (sq _ _).1, Fit d l e
          rw [getD_at f0] at m0 ⊢
          rw [getD_at f1] at m1 ⊢
          rw [getD_at p0, getD_at p1]
          exact sq_fit ((IH f.args[0] p.args[0] (by have := Ty.size_arg p0; omega) (right_arg rf (List.getElem_mem f0)) (right_arg rp (List.getElem_mem p0)) r0).2 m0) ((IH f.args[1] p.args[1] (by have := Ty.size_arg p1; omega) (right_arg rf (List.getElem_mem f1)) (right_arg rp (List.getElem_mem p1)) r1).1 m1)
        by_cases u5 : (upT d s).1.k = 5
        · exact fin _ (fnT_right ru ru) rfl (funM_dyn rs ru u5) (MayR.dynR u5) (MayR.dynL u5)
        · rcases hmu.inv (by omega) u5 (by omega) with h | h | h | h
          · exact absurd h.1 u6
          · have h3 := h.2.2.1
            have h4 := h.2.2.2
            rw [hq] at h3 h4
            have e0 : (⟨p.k, p.n, p.name, p.labels, p.args.map (Ty.opd l)⟩ : Ty).args.getD 0 zeroT = (p.args[0]).opd l := map_getD p0
            have e1 : (⟨p.k, p.n, p.name, p.labels, p.args.map (Ty.opd l)⟩ : Ty).args.getD 1 zeroT = (p.args[1]).opd l := map_getD p1
            rw [e0] at h3
            rw [e1] at h4
            exact fin _ ru h.1 (funM_of rs ru u5 h.1) h3 h4
          · omega
          · have := h.1; rw [this, qk, k7] at h; exact absurd rfl h.2.2.1
      | false =>
      rw [condF]
      have k8 : p.k = 8 := by rcases k78 with e | e; (rw [e, eqd_self] at h7; cases h7); exact e
      have hp8 := right_rec rp k8
      rw [eqd_of k8, condT]
      refine sqs_fit fun x hx => ?_
      obtain ⟨k, hk, rfl⟩ := List.mem_map.1 hx
      have hk : k < p.labels.length := by have := List.mem_range'_1.1 hk; omega
      have hk2 : k < p.args.length := by omega
      have hkind := rising_kind hp8.1 _ (List.getElem_mem hk)
      have r0 := opd_arg hu rq (List.getElem_mem hk2)
      rw [getD_at hk, getD_at hk2]
      have fin : ∀ r g : Ty, fieldM d s p.labels[k] = some (r, g) → g.right = true → MayR d g ((p.args[k]).opd l) →
          (match fieldM d s p.labels[k] with | none => (([], true) : Asked) | some q => ask d l.length m true q.2 p.args[k]).2 = false ∧ ∀ e ∈ (match fieldM d s p.labels[k] with | none => (([], true) : Asked) | some q => ask d l.length m true q.2 p.args[k]).1, Fit d l e := fun r g hf rg hm => by
        rw [hf]
        exact (IH g p.args[k] (by have := Ty.size_arg hk2; omega) rg (right_arg rp (List.getElem_mem hk2)) r0).1 hm
      by_cases u5 : (upT d s).1.k = 5
      · exact fin _ _ (fieldM_dyn rs ru hkind u5) ru (MayR.dynL u5)
      · rcases hmu.inv (by omega) u5 (by omega) with h | h | h | h
        · exact absurd h.1 u6
        · omega
        · obtain ⟨g, hg, hgm⟩ := h.2.2 k (by rw [hq]; exact hk)
          rw [hq] at hg hgm
          have e0 : (⟨p.k, p.n, p.name, p.labels, p.args.map (Ty.opd l)⟩ : Ty).args.getD k zeroT = (p.args[k]).opd l := map_getD hk2
          have e1 : (⟨p.k, p.n, p.name, p.labels, p.args.map (Ty.opd l)⟩ : Ty).labels.getD k ByteArray.empty = p.labels[k] := getD_at hk _
          rw [e1] at hg
          rw [e0] at hgm
          exact fin _ g (fieldM_of rs ru hkind u5 h.1 hg) (right_arg ru (fieldT_mem hg).1) hgm
        · have := h.1; rw [this, qk, k8] at h; exact absurd rfl h.2.2.2
    · rw [ask]
      cases hh : p.hasU l.length with
      | false => exact hz
      | true =>
      rw [Bool.not_true, condF]
      cases hu : p.isU l.length with
      | true =>
        obtain ⟨k9, kn⟩ := isU_k hu
        have n0 := right_u rp k9
        rw [condT]
        refine ⟨rfl, fun e he => ?_⟩
        have he : e ∈ [(⟨!false, p.n.toNat, s⟩ : Ev)] := he
        rw [List.mem_singleton.1 he]
        rw [opd_u hu] at rq hmay
        exact ⟨by show p.n.toNat < _; omega, rq, hmay⟩
      | false =>
      rw [condF]
      cases h5 : eqd s.k 5 with
      | true => exact ⟨rfl, opn_fit d l _ p _ (Nat.lt_succ_self _) rp rq⟩
      | false =>
      rw [condF, condF]
      have s5 := eqd_ne h5
      have k78 := isU_arg rp hh hu
      have hq := opd_no hu
      have qk : (p.opd l).k = p.k := by rw [hq]
      cases h4 : eqd s.k 4 with
      | true => exact hz
      | false =>
      rw [condF]
      have s4 := eqd_ne h4
      have inv := hmay.inv s4 (by omega) s5
      cases h7 : eqd p.k 7 with
      | true =>
        have k7 := eqd_iff.1 h7
        have lp := right_fn rp k7
        have p0 : 0 < p.args.length := by omega
        have p1 : 1 < p.args.length := by omega
        rw [condT]
        rcases inv with h | h | h | h
        · omega
        · have h3 := h.2.2.1
          have h4 := h.2.2.2
          rw [hq] at h3 h4
          have e0 : (⟨p.k, p.n, p.name, p.labels, p.args.map (Ty.opd l)⟩ : Ty).args.getD 0 zeroT = (p.args[0]).opd l := map_getD p0
          have e1 : (⟨p.k, p.n, p.name, p.labels, p.args.map (Ty.opd l)⟩ : Ty).args.getD 1 zeroT = (p.args[1]).opd l := map_getD p1
          rw [e0] at h3
          rw [e1] at h4
          have ls := right_fn rs h.2.1
          have f0 : 0 < s.args.length := by omega
          have f1 : 1 < s.args.length := by omega
          rw [eqd_of h.2.1, condT]
          rw [getD_at f0] at h3 ⊢
          rw [getD_at f1] at h4 ⊢
          rw [getD_at p0, getD_at p1]
          exact sq_fit ((IH s.args[0] p.args[0] (by have := Ty.size_arg p0; omega) (right_arg rs (List.getElem_mem f0)) (right_arg rp (List.getElem_mem p0)) (opd_arg hu rq (List.getElem_mem p0))).1 h3) ((IH s.args[1] p.args[1] (by have := Ty.size_arg p1; omega) (right_arg rs (List.getElem_mem f1)) (right_arg rp (List.getElem_mem p1)) (opd_arg hu rq (List.getElem_mem p1))).2 h4)
        · omega
        · exact absurd (by omega) h.2.2.1
      | false =>
      rw [condF]
      have k8 : p.k = 8 := by rcases k78 with e | e; (rw [e, eqd_self] at h7; cases h7); exact e
      rw [eqd_of k8, condT]
      rcases inv with h | h | h | h
      · omega
      · omega
      · have hs8 := right_rec rs h.2.1
        rw [eqd_of h.2.1, condT]
        refine sqs_fit fun x hx => ?_
        obtain ⟨k, hk, rfl⟩ := List.mem_map.1 hx
        have hk : k < s.labels.length := by have := List.mem_range'_1.1 hk; omega
        have hk2 : k < s.args.length := by omega
        obtain ⟨t, ht, htm⟩ := h.2.2 k hk
        rw [hq, field_opd, Option.map_eq_some_iff] at ht
        obtain ⟨g, hg, rfl⟩ := ht
        rw [getD_at hk2] at htm ⊢
        rw [hg]
        have gm := (fieldT_mem hg).1
        exact (IH s.args[k] g (by have := arg_size gm; omega) (right_arg rs (List.getElem_mem hk2)) (right_arg rp gm) (opd_arg hu rq gm)).2 htm
      · exact absurd (by omega) h.2.2.2
end Go.Sh.T

/- The law GenFits. -/
namespace Go.Sh.T
open Go Go.Sh Go.Proofs
set_option linter.unusedSimpArgs false
set_option linter.unusedVariables false
set_option maxRecDepth 100000

/- each need is of what is asked -/
theorem push1_at : ∀ (w : Needs) (k : Nat) (up : Bool) (t : Ty) (i : Nat), i < w.length → atN (push1 w k up t) i = if i = k then (bif up then ((atN w i).1, (atN w i).2 ++ [t]) else ((atN w i).1 ++ [t], (atN w i).2)) else atN w i
  | p :: r, 0, up, t, 0, _ => rfl
  | p :: r, 0, up, t, i + 1, _ => rfl
  | p :: r, k + 1, up, t, 0, _ => rfl
  | p :: r, k + 1, up, t, i + 1, h => by
    have := push1_at r k up t i (by simpa using h)
    show atN (push1 r k up t) i = _
    rw [this]
    by_cases e : i = k
    · rw [if_pos e, if_pos (by omega)]; rfl
    · rw [if_neg e, if_neg (by omega)]; rfl
theorem pushes_mem : ∀ (l : List Ev) (w : Needs) (i : Nat), i < w.length → (∀ t ∈ (atN (pushes w l) i).1, t ∈ (atN w i).1 ∨ ∃ e ∈ l, e.n = i ∧ e.up = false ∧ e.t = t) ∧ (∀ t ∈ (atN (pushes w l) i).2, t ∈ (atN w i).2 ∨ ∃ e ∈ l, e.n = i ∧ e.up = true ∧ e.t = t)
  | [], w, i, _ => ⟨fun t h => .inl h, fun t h => .inl h⟩
  | e :: l, w, i, hi => by
    rw [pushes_cons]
    obtain ⟨h1, h2⟩ := pushes_mem l (push1 w e.n e.up e.t) i (by rw [push1_len]; exact hi)
    have hp := push1_at w e.n e.up e.t i hi
    refine ⟨fun t ht => ?_, fun t ht => ?_⟩
    · rcases h1 t ht with h | ⟨f, f1, f2⟩
      · rw [hp] at h
        by_cases ei : i = e.n
        · rw [if_pos ei] at h
          cases hu : e.up with
          | true => rw [hu] at h; exact .inl h
          | false =>
            rw [hu] at h
            rcases List.mem_append.1 h with h | h
            · exact .inl h
            · exact .inr ⟨e, List.mem_cons_self, ei.symm, hu, (List.mem_singleton.1 h).symm⟩
        · rw [if_neg ei] at h; exact .inl h
      · exact .inr ⟨f, List.mem_cons_of_mem _ f1, f2⟩
    · rcases h2 t ht with h | ⟨f, f1, f2⟩
      · rw [hp] at h
        by_cases ei : i = e.n
        · rw [if_pos ei] at h
          cases hu : e.up with
          | false => rw [hu] at h; exact .inl h
          | true =>
            rw [hu] at h
            rcases List.mem_append.1 h with h | h
            · exact .inl h
            · exact .inr ⟨e, List.mem_cons_self, ei.symm, hu, (List.mem_singleton.1 h).symm⟩
        · rw [if_neg ei] at h; exact .inl h
      · exact .inr ⟨f, List.mem_cons_of_mem _ f1, f2⟩
theorem is19 (d : List Bind) (hd : d.length ≤ 1000) (od : ∀ b ∈ d, b.Ok) (hc : Closed d) (h17 : evw E 17 [.sl 6 (d.map Bind.cells)] [] = some (.ret (.lit (.bool true)), [])) (a b : Ty) (oa : a.Ok) (ob : b.Ok) :
    ∃ c : Bool, evw E 19 [.sl 6 (d.map Bind.cells), .agg a.cells, .agg b.cells] [] = some (.ret (.lit (.bool c)), []) ∧ (c = true ↔ a.right = true ∧ b.right = true ∧ MayR d a b) := by
  cases ra : a.right with
  | false =>
    refine ⟨false, evw_run primsC 0 rfl rfl rfl ?_, by simp⟩
    rw [nf19]; simp only [aggS, bind_some', Ty.cells_len, b5, condT, condF, Ty.refold, h17, right_spec _ _ oa, ra, onOut_ret, boolB]
  | true =>
  cases rb : b.right with
  | false =>
    refine ⟨false, evw_run primsC 0 rfl rfl rfl ?_, by simp⟩
    rw [nf19]; simp only [aggS, bind_some', Ty.cells_len, b5, condT, condF, Ty.refold, h17, right_spec _ _ oa, right_spec _ _ ob, ra, rb, onOut_ret, boolB]
  | true =>
    obtain ⟨c, h1, h2⟩ := may_iff d hd od hc a b [] oa ob ra rb
    refine ⟨c, evw_run primsC 0 rfl rfl rfl ?_, by simpa using h2⟩
    rw [nf19]; simp only [aggS, bind_some', Ty.cells_len, b5, condT, condF, Ty.refold, h17, right_spec _ _ oa, right_spec _ _ ob, ra, rb, onOut_ret, boolB, h1]
theorem genFits_row (d : List Bind) (hd : d.length ≤ maxLen) (od : ∀ b ∈ d, b.Ok) (s : Ty) (os : s.Ok) (p : Ty) (op : p.Ok) (zs : List Bind) (ha : zs.length ≤ maxLen) (oa : ∀ b ∈ zs, b.Ok) (hv : p.pre.length ≤ 1048576) (_ : List Nat) :
    evw E 5 [.sl 6 (d.map Bind.cells), .agg s.cells, .agg p.cells, .sl 6 (zs.map Bind.cells)] [] = some (.ret (.lit (.bool true)), []) := by
  obtain ⟨c6, e6, k6⟩ := small6 d hd od [s, p] (by show 2 ≤ 1000; decide) (fun t ht => by
    rcases List.mem_cons.1 ht with e | e
    · rw [e]; exact os
    · rw [List.mem_singleton.1 e]; exact op) []
  have e6 : evw E 6 [.sl 6 (d.map Bind.cells), .sl 5 [s.cells, p.cells]] [] = some (.ret (.lit (.bool c6)), []) := e6
  have hp : p.pre.length ≤ maxApp := Nat.le_trans hv (by decide)
  refine evw_run primsC (p.pre.length + 10) rfl rfl rfl ?_
  rw [nf5]
  simp only [aggS, bind_some', Ty.cells_len, b5, condT, Ty.refold, e6, onOut_ret, notB, boolB, awake8, lenA22, List.length_map, bin_int, gtrI, few16_spec zs ha oa, right_spec s _ os, right_spec p _ op]
  cases c6 with
  | false => rfl
  | true =>
  have hd' : d.length ≤ 1000 := Nat.le_trans (k6 rfl).1 (by decide)
  obtain ⟨c17, h17, k17⟩ := right17 d hd' od []
  simp only [Bool.not_true, condF, h17, onOut_ret, notB, bind_some', boolB, awake8, right_spec s _ os, right_spec p _ op]
  cases h3 : decide ((zs.length : Int) > 3) with
  | true => rfl
  | false =>
  have la : zs.length ≤ 3 := by rw [decide_eq_false_iff_not] at h3; omega
  cases decide (few16 zs > 60) with
  | true => rfl
  | false =>
  cases c17 with
  | false => rfl
  | true =>
  have hc : Closed d := k17 rfl
  cases rs : s.right with
  | false => rfl
  | true =>
  cases rp : p.right with
  | false => rfl
  | true =>
  simp only [Bool.not_true, condF]
  let l : List Ty := zs.map Bind.ty
  have ll : l.length = zs.length := List.length_map _
  have ol : ∀ t ∈ l, t.Ok := fun t ht => by obtain ⟨b, hb, rfl⟩ := List.mem_map.1 ht; exact (oa b hb).ty
  obtain ⟨co, ho⟩ := open18 l (by omega) ol p op rp hv []
  -- behind the list of types
  have rest : Lp5_0 (evw E) (p.pre.length + 10) [] (p.pre.length + 10) [] (.sl 6 (d.map Bind.cells)) (.sl 6 (zs.map Bind.cells)) (s.cells.getD 0 .dead) (s.cells.getD 1 .dead) (s.cells.getD 2 .dead) (s.cells.getD 3 .dead) (s.cells.getD 4 .dead) (p.cells.getD 0 .dead) (p.cells.getD 1 .dead) (p.cells.getD 2 .dead) (p.cells.getD 3 .dead) (p.cells.getD 4 .dead) [] (.lit (.int .i64 0)) =
      Lp5_0 (evw E) (p.pre.length + 10) [] (p.pre.length + 10 - zs.length) [] (.sl 6 (d.map Bind.cells)) (.sl 6 (zs.map Bind.cells)) (s.cells.getD 0 .dead) (s.cells.getD 1 .dead) (s.cells.getD 2 .dead) (s.cells.getD 3 .dead) (s.cells.getD 4 .dead) (p.cells.getD 0 .dead) (p.cells.getD 1 .dead) (p.cells.getD 2 .dead) (p.cells.getD 3 .dead) (p.cells.getD 4 .dead) (l.map Ty.cells) (.lit (.int .i64 (zs.length : Int))) := by
    have step : ∀ (i : Nat), i ≤ zs.length → Lp5_0 (evw E) (p.pre.length + 10) [] (p.pre.length + 10) [] (.sl 6 (d.map Bind.cells)) (.sl 6 (zs.map Bind.cells)) (s.cells.getD 0 .dead) (s.cells.getD 1 .dead) (s.cells.getD 2 .dead) (s.cells.getD 3 .dead) (s.cells.getD 4 .dead) (p.cells.getD 0 .dead) (p.cells.getD 1 .dead) (p.cells.getD 2 .dead) (p.cells.getD 3 .dead) (p.cells.getD 4 .dead) [] (.lit (.int .i64 0)) =
      Lp5_0 (evw E) (p.pre.length + 10) [] (p.pre.length + 10 - i) [] (.sl 6 (d.map Bind.cells)) (.sl 6 (zs.map Bind.cells)) (s.cells.getD 0 .dead) (s.cells.getD 1 .dead) (s.cells.getD 2 .dead) (s.cells.getD 3 .dead) (s.cells.getD 4 .dead) (p.cells.getD 0 .dead) (p.cells.getD 1 .dead) (p.cells.getD 2 .dead) (p.cells.getD 3 .dead) (p.cells.getD 4 .dead) ((l.take i).map Ty.cells) (.lit (.int .i64 (i : Int))) := by
      intro i
      induction i with
      | zero => intro _; rfl
      | succ i ih =>
        intro hi
        have hi' : i < zs.length := by omega
        have hil : i < l.length := by omega
        rw [ih (by omega), show p.pre.length + 10 - i = (p.pre.length + 10 - (i + 1)) + 1 by omega, Lp5_0_succ]
        have hz : (((l.take i).map Ty.cells).length + ([(zs[i]).ty.cells] : List (List AV)).length) = i + 1 := by rw [List.length_map, List.length_take, List.length_singleton]; omega
        have hbl : Nat.ble (i + 1) maxApp = true := by rw [Nat.ble_eq]; have : 4 ≤ maxApp := by decide
                                                       omega
        have en : ((l.take i).map Ty.cells) ++ [(zs[i]).ty.cells] = (l.take (i + 1)).map Ty.cells := by
          rw [List.take_succ_eq_append_getElem hil, List.map_append]
          have : l[i] = (zs[i]).ty := List.getElem_map _
          rw [← this]; rfl
        simp only [lenA22, bind_some', List.length_map, bin_int, lssI, boolB, ltT hi', condT, indexA_map _ _ _ _ hi', Bind.len, show Nat.ble 1 6 = true from rfl, Bind.p1, aggS, Ty.cells_len, b5, Ty.refold, addI, incI (show i < 9223372036854775807 by omega), en]
        rw [show (List.length (l.take i) + List.length ([(zs[i]).ty.cells] : List (List AV))) = i + 1 from by rw [List.length_take, List.length_singleton]; omega, hbl, condT]
    have h := step zs.length (Nat.le_refl _)
    rw [List.take_of_length_le (by omega)] at h
    exact h
  rw [rest, show p.pre.length + 10 - zs.length = (p.pre.length + 9 - zs.length) + 1 by omega, Lp5_0_succ]
  simp only [lenA22, bind_some', List.length_map, bin_int, lssI, boolB, ltF (Nat.lt_irrefl zs.length), condF, Ty.refold, ho, onOut_ret, tupS, t20, t21, aggS, Ty.cells_len, b5, condT, notB]
  cases co with
  | false => simp only [Bool.not_false, condT, awake8, onOut_ret]
  | true =>
  simp only [Bool.not_true, condF, cond_true]
  have oq := opd_ok ol _ p (Nat.lt_succ_self _) op
  obtain ⟨cq, hq, kq⟩ := is19 d hd' od hc h17 s (p.opd l) os oq
  simp only [hq, onOut_ret, notB, bind_some', boolB]
  cases cq with
  | false => simp only [Bool.not_false, condT, awake8, onOut_ret]
  | true =>
  obtain ⟨_, rq, hmay⟩ := kq.1 rfl
  simp only [Bool.not_true, condF]
  obtain ⟨f1, f2⟩ := (ask_fit hc l _ s p (Nat.lt_succ_self _) rs rp rq).1 hmay
  have hof : ofG d (l.length : Int) s p = (pushes (noNeeds l.length) (ask d l.length (SizeOf.sizeOf p + 1) true s p).1, 0) := by
    unfold ofG
    rw [decide_eq_false (show ¬ (l.length : Int) < 0 by omega), decide_eq_false (show ¬ (l.length : Int) > 3 by omega), rs, rp, Int.toNat_natCast, f1]; rfl
  have neq31 : ∀ x y : Int, binAV E .neq 31 (.lit (.int .i64 x)) (.lit (.int .i64 y)) = some (.lit (.bool (x != y))) := fun x y => by rw [bin_int, neqI]
  have oall := fun e he => ask_all od l.length _ true s p (Nat.lt_succ_self _) os rs op rp e he
  have of9' := of9 d hd' od (l.length : Int) s p os op hp
  have ow := ofG_ok od (l.length : Int) s p os op hp
  rw [hof] at of9' ow
  generalize hw : pushes (noNeeds l.length) (ask d l.length (SizeOf.sizeOf p + 1) true s p).1 = w at of9' ow
  have wl : w.length = l.length := by rw [← hw, pushes_len, noNeeds_len]
  have g1 : ∀ i, i < w.length → (∀ t ∈ (atN w i).1, t.Ok ∧ t.right = true ∧ (l.getD i zeroT).right = true ∧ MayR d t (l.getD i zeroT)) ∧ (∀ t ∈ (atN w i).2, t.Ok ∧ t.right = true ∧ (l.getD i zeroT).right = true ∧ MayR d (l.getD i zeroT) t) := fun i hi => by
    obtain ⟨m1, m2⟩ := pushes_mem (ask d l.length (SizeOf.sizeOf p + 1) true s p).1 (noNeeds l.length) i (by rw [noNeeds_len]; omega)
    rw [hw, atN_no] at m1 m2
    refine ⟨fun t ht => ?_, fun t ht => ?_⟩
    · rcases m1 t ht with h | ⟨e, he, e1, e2, e3⟩
      · cases h
      · obtain ⟨_, g2, g3⟩ := f2 e he
        rw [e2, e1, e3] at g3
        rw [e1] at g2
        have := oall e he
        rw [e3] at this
        exact ⟨this.1, this.2, g2, g3⟩
    · rcases m2 t ht with h | ⟨e, he, e1, e2, e3⟩
      · cases h
      · obtain ⟨_, g2, g3⟩ := f2 e he
        rw [e2, e1, e3] at g3
        rw [e1] at g2
        have := oall e he
        rw [e3] at this
        exact ⟨this.1, this.2, g2, g3⟩
  have il : ∀ {i : Nat} (hi : i < w.length), indexA 5 (.sl 5 (l.map Ty.cells)) (.lit (.int .i64 (i : Int))) = some (l.getD i zeroT).cells := fun {i} hi => by
    have h2 : i < l.length := by omega
    rw [getD_at h2]; exact indexA_map _ _ _ _ h2
  have olD : ∀ {i : Nat}, i < w.length → (l.getD i zeroT).Ok := fun {i} hi => by
    have h2 : i < l.length := by omega
    rw [getD_at h2]; exact ol _ (List.getElem_mem h2)
  have yes : ∀ {a b : Ty}, a.Ok → b.Ok → a.right = true → b.right = true → MayR d a b → evw E 19 [.sl 6 (d.map Bind.cells), .agg a.cells, .agg b.cells] [] = some (.ret (.lit (.bool true)), []) := fun oa ob ra rb hm => by
    obtain ⟨c, h1, h2⟩ := is19 d hd' od hc h17 _ _ oa ob
    rw [h1, h2.2 ⟨ra, rb, hm⟩]
  have szs : ∀ i (hi : i < w.length), w[i].1.length ≤ p.pre.length ∧ w[i].2.length ≤ p.pre.length := fun i hi => by
    have hal : (ask d l.length (SizeOf.sizeOf p + 1) true s p).1.length ≤ p.pre.length := ask_len d l.length _ true s p (Nat.lt_succ_self _) rs rp
    have hr : Room (noNeeds l.length) ((maxApp - p.pre.length) + (ask d l.length (SizeOf.sizeOf p + 1) true s p).1.length) := noNeeds_room _ _ (by omega)
    have := Room.pushes _ hr
    rw [hw] at this
    have := this _ (List.getElem_mem hi)
    omega
  have neq3 : ∀ x : Int, binAV E .neq 3 (.lit (.int .i64 x)) (.lit (.int .i64 x)) = some (.lit (.bool false)) := fun x => by rw [bin_int, neqE, eqd_self]; rfl
  simp only [lenA24, bind_some', List.length_map]
  rw [of9']
  simp only [onOut_ret, tupS, bind_some', t20, t21, neq31, show ((0 : Int) != 0) = false from rfl, boolB, condF, lenA27, needR_len, wl, neqE, eqd_self, Bool.not_true]
  have loop : ∀ (q i : Nat), i ≤ w.length → w.length < q + i → Lp5_1 (evw E) (p.pre.length + 10) [] q [] (.sl 6 (d.map Bind.cells)) (l.map Ty.cells) (.sl 2 (needR w)) (.lit (.int .i64 (i : Int))) = some (.ret (.lit (.bool true)), []) := by
    intro q
    induction q with
    | zero => intro i h1 h2; omega
    | succ q ih =>
      intro i h1 h2
      rw [Lp5_1_succ]
      simp only [lenA27, bind_some', bin_int, lssI, boolB, needR_len]
      by_cases hi : i < w.length
      · have hgi := g1 i hi
        rw [atN, getD_at hi] at hgi
        have hsz := szs i hi
        have l3 : ∀ (q' k : Nat), k ≤ w[i].2.length → w[i].2.length < q' + k → Lp5_3 (evw E) (p.pre.length + 10) [] q q' [] (.sl 6 (d.map Bind.cells)) (l.map Ty.cells) (.sl 2 (needR w)) (.lit (.int .i64 (i : Int))) (.lit (.int .i64 (k : Int))) = some (.ret (.lit (.bool true)), []) := by
          intro q'
          induction q' with
          | zero => intro k h1 h2; omega
          | succ q' ih2 =>
            intro k h1 h2
            rw [Lp5_3_succ]
            simp only [needR_at w hi, bind_some', len2, show Nat.ble 0 2 = true from rfl, show Nat.ble 1 2 = true from rfl, part2a, part2b, condT, lenA24, List.length_map, bin_int, lssI, boolB]
            by_cases hk : k < w[i].2.length
            · obtain ⟨x1, x2, x3, x4⟩ := hgi.2 _ (List.getElem_mem hk)
              simp only [ltT hk, condT, il hi, bind_some', partA_full (Ty.cells_len _), indexA_map _ _ _ _ hk, yes (olD hi) x1 x3 x2 x4, onOut_ret, notB, boolB, Bool.not_true, condF, bin_int, addI, incI (show k < 9223372036854775807 by omega)]
              exact ih2 (k + 1) hk (by omega)
            · simp only [ltF hk, condF, bin_int, addI, bind_some', incI (show i < 9223372036854775807 by omega)]
              exact ih (i + 1) hi (by omega)
        have l2 : ∀ (q' k : Nat), k ≤ w[i].1.length → w[i].1.length < q' + k → Lp5_2 (evw E) (p.pre.length + 10) [] q q' [] (.sl 6 (d.map Bind.cells)) (l.map Ty.cells) (.sl 2 (needR w)) (.lit (.int .i64 (i : Int))) (.lit (.int .i64 (k : Int))) = some (.ret (.lit (.bool true)), []) := by
          intro q'
          induction q' with
          | zero => intro k h1 h2; omega
          | succ q' ih2 =>
            intro k h1 h2
            rw [Lp5_2_succ]
            simp only [needR_at w hi, bind_some', len2, show Nat.ble 0 2 = true from rfl, show Nat.ble 1 2 = true from rfl, part2a, part2b, condT, lenA24, List.length_map, bin_int, lssI, boolB]
            by_cases hk : k < w[i].1.length
            · obtain ⟨x1, x2, x3, x4⟩ := hgi.1 _ (List.getElem_mem hk)
              simp only [ltT hk, condT, il hi, bind_some', partA_full (Ty.cells_len _), indexA_map _ _ _ _ hk, yes x1 (olD hi) x2 x3 x4, onOut_ret, notB, boolB, Bool.not_true, condF, bin_int, addI, incI (show k < 9223372036854775807 by omega)]
              exact ih2 (k + 1) hk (by omega)
            · simp only [ltF hk, condF]
              exact l3 (p.pre.length + 10) 0 (Nat.zero_le _) (by omega)
        simp only [ltT hi, condT]
        exact l2 (p.pre.length + 10) 0 (Nat.zero_le _) (by omega)
      · simp only [ltF hi, condF, awake8, onOut_ret]
  exact loop (p.pre.length + 10) 0 (Nat.zero_le _) (by omega)
end Go.Sh.T

namespace Go.Sh.T
open Go Go.Sh Go.Proofs
theorem ty_vol1 {t : Ty} {m : Nat} (h : volC t.cells ≤ m) (hm : m ≤ 1048576) : t.pre.length ≤ 1048576 := by
  have := Ty.pre_vol t
  omega
end Go.Sh.T
