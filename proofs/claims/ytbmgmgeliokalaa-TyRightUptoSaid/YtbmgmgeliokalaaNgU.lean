/- NgU: part of the proof: a shadow of the machine that is proved sound, and what the functions of this seat compute. Conditions: none. -/
import Derived.Test.YtbmgmgeliokalaaTgC
import Derived.Test.YtbmgmgeliokalaaNgE
import Derived.Test.YtbmgmgeliokalaaNgQ
import Derived.Test.YtbmgmgeliokalaaShB
import Derived.Test.YtbmgmgeliokalaaRows
set_option linter.unusedSimpArgs false
/- Functions, few, the document's Rec. -/
namespace Go.Sh.T
open Go Go.Sh Go.Proofs
set_option linter.unusedSimpArgs false
set_option linter.unusedVariables false
set_option maxRecDepth 100000
def fnT (a b : Ty) : Ty := ⟨7, 0, ByteArray.empty, [], [a, b]⟩
theorem fnT_cells (a b : Ty) : (fnT a b).cells = [.lit (.int .i64 7), .lit (.int .i64 0), .lit (.string ByteArray.empty), .sl 1 [], .sl 5 [a.cells, b.cells]] := by rw [Ty.cells_eq]; rfl
theorem fun29 (a b : Ty) (h : Heap) : evw E 29 [.agg a.cells, .agg b.cells] h = some (.ret (.agg (fnT a b).cells), h) := by
  refine evw_run primsC 0 rfl rfl rfl ?_
  rw [nf29, aggS, bind_some', Ty.cells_len, b5, condT, aggS, bind_some', Ty.cells_len, b5, condT, Ty.refold, Ty.refold, fnT_cells]
/- the document's Rec -/
section
variable (F : Nat → List AV → Heap → R) (n : Nat) (h0 : Heap)
/-- One more laid into its place. -/
noncomputable def tail26 (m0 : Nat) (h : Heap) (x33 x34 x35 x36 x37 : AV) (z38 z39 : List (List AV)) (x40 x41 x42 : AV) (z43 z44 : List (List AV)) (x45 x46 : AV) : R := (sliceA E 22 (.sl 1 z43) none (some x46)).bind fun v71 => (slOf 1 v71).bind fun ys72 => cond (Nat.ble (([] : List (List AV)).length + ys72.length) maxApp) ((indexA 1 x33 x45).bind fun e73 => (partA false 1 0 e73).bind fun v74 => cond (AV.one v74) (cond (Nat.ble ((([] ++ ys72) : List (List AV)).length + ([[v74]] : List (List AV)).length) maxApp) ((sliceA E 22 (.sl 1 z43) (some x46) none).bind fun v75 => (slOf 1 v75).bind fun ys76 => cond (Nat.ble (((([] ++ ys72) ++ [[v74]]) : List (List AV)).length + ys76.length) maxApp) ((sliceA E 23 (.sl 5 z44) none (some x46)).bind fun v77 => (slOf 5 v77).bind fun ys78 => cond (Nat.ble (([] : List (List AV)).length + ys78.length) maxApp) ((indexA 5 x34 x45).bind fun e79 => (partA true 5 0 e79).bind fun v80 => (aggOf v80).bind fun l81 => cond (Nat.beq l81.length 5) (cond (Nat.ble ((([] ++ ys78) : List (List AV)).length + ([[(l81.getD 0 .dead), (l81.getD 1 .dead), (l81.getD 2 .dead), (l81.getD 3 .dead), (l81.getD 4 .dead)]] : List (List AV)).length) maxApp) ((sliceA E 23 (.sl 5 z44) (some x46) none).bind fun v82 => (slOf 5 v82).bind fun ys83 => cond (Nat.ble (((([] ++ ys78) ++ [[(l81.getD 0 .dead), (l81.getD 1 .dead), (l81.getD 2 .dead), (l81.getD 3 .dead), (l81.getD 4 .dead)]]) : List (List AV)).length + ys83.length) maxApp) ((binAV E .add 3 x45 (.lit (.int .i64 1))).bind fun r84 => Lp26_0 F n h0 m0 h x33 x34 x35 x36 x37 z38 z39 x40 x41 x42 ((([] ++ ys72) ++ [[v74]]) ++ ys76) ((([] ++ ys78) ++ [[(l81.getD 0 .dead), (l81.getD 1 .dead), (l81.getD 2 .dead), (l81.getD 3 .dead), (l81.getD 4 .dead)]]) ++ ys83) r84) none) none) none) none) none) none) none) none
end
namespace RC
/-- How many stand ahead. -/
def posQ (s : ByteArray) : List (ByteArray × Ty) → Nat
  | [] => 0
  | x :: r => bif strLt x.1 s then posQ s r + 1 else 0
abbrev lab (q : List (ByteArray × Ty)) : List (List AV) := (q.map Prod.fst).map strC
abbrev arg (q : List (ByteArray × Ty)) : List (List AV) := (q.map Prod.snd).map Ty.cells
section
variable (n : Nat) (h0 : Heap) (h : Heap) (ls : List ByteArray) (ts : List Ty) (x35 x36 x37 x40 x41 x42 : AV) (z38 z39 : List (List AV))
end
end RC
end Go.Sh.T

/- The document's Rec is the program's. -/
namespace Go.Sh.T
open Go Go.Sh Go.Proofs Go.Sort
set_option linter.unusedSimpArgs false
set_option linter.unusedVariables false
set_option maxRecDepth 100000
namespace RC
theorem zip_fst {ls : List ByteArray} {ts : List Ty} (h : ls.length = ts.length) : (ls.zip ts).map Prod.fst = ls := List.map_fst_zip (by omega)
theorem labs_perm {ls : List ByteArray} {ts : List Ty} (h : ls.length = ts.length) : ((sortQ (ls.zip ts)).map Prod.fst).Perm ls := by
  have := (sortQ_ok (ls.zip ts)).1.map Prod.fst
  rwa [zip_fst h] at this
abbrev zeroO : AV := .tup [.agg [.lit (.int .i64 0), .lit (.int .i64 0), .lit (.string ByteArray.empty), .sl 1 [], .sl 5 []], .lit (.bool false)]
end RC
end Go.Sh.T

/- The laws: over steps. -/
namespace Go.Sh.T
open Go Go.Sh Go.Proofs Go.Sort
set_option linter.unusedSimpArgs false
set_option linter.unusedVariables false
set_option maxRecDepth 100000
def recT (ls : List ByteArray) (ts : List Ty) : Ty × Bool := bif decide (ls.length = ts.length) && risingR ((RC.sortQ (ls.zip ts)).map Prod.fst) none then (⟨8, 0, ByteArray.empty, (RC.sortQ (ls.zip ts)).map Prod.fst, (RC.sortQ (ls.zip ts)).map Prod.snd⟩, true) else (zeroT, false)
theorem recA_tup (ls : List ByteArray) (ts : List Ty) : RC.recA ls ts = .tup [.agg (recT ls ts).1.cells, .lit (.bool (recT ls ts).2)] := by
  unfold RC.recA recT
  cases decide (ls.length = ts.length) with
  | false => rw [cond_false, Bool.false_and, cond_false, zeroT_cells]; rfl
  | true =>
    rw [cond_true, Bool.true_and]
    unfold RC.recQ
    cases risingR ((RC.sortQ (ls.zip ts)).map Prod.fst) none with
    | false => rw [cond_false, cond_false, zeroT_cells]; rfl
    | true => rfl
theorem zeroT_ok : zeroT.Ok := .mk (show (Lit.int .i64 0).wf = true by decide) (show (Lit.int .i64 0).wf = true by decide) (Nat.zero_le _) (Nat.zero_le _) (fun _ h => by cases h) (Nat.zero_le _) (fun _ h => by cases h)
theorem fnT_ok {a b : Ty} (oa : a.Ok) (ob : b.Ok) : (fnT a b).Ok := .mk (show (Lit.int .i64 7).wf = true by decide) (show (Lit.int .i64 0).wf = true by decide) (Nat.zero_le _) (Nat.zero_le _) (fun _ h => by cases h) (show 2 ≤ maxLen by decide) (fun s h => by
  have : s ∈ [a, b] := h
  rcases List.mem_cons.1 this with e | e
  · rw [e]; exact oa
  · rw [List.mem_singleton.1 e]; exact ob)
theorem recT_ok {ls : List ByteArray} {ts : List Ty} (hl : ls.length ≤ 1048576) (hs : ∀ s ∈ ls, s.size ≤ maxLen) (ht : ∀ t ∈ ts, t.Ok) : (recT ls ts).1.Ok := by
  have hM : maxLen = 9223372036854775807 := rfl
  unfold recT
  cases hd : decide (ls.length = ts.length) with
  | false => rw [Bool.false_and, cond_false]; exact zeroT_ok
  | true =>
    have hd := of_decide_eq_true hd
    cases risingR ((RC.sortQ (ls.zip ts)).map Prod.fst) none with
    | false => rw [Bool.true_and, cond_false]; exact zeroT_ok
    | true =>
      rw [Bool.true_and, cond_true]
      have hp := RC.labs_perm hd
      have hp2 : ((RC.sortQ (ls.zip ts)).map Prod.snd).Perm ts := by
        have := (RC.sortQ_ok (ls.zip ts)).1.map Prod.snd
        rwa [List.map_snd_zip (by omega)] at this
      exact .mk (show (Lit.int .i64 8).wf = true by decide) (show (Lit.int .i64 0).wf = true by decide) (Nat.zero_le _) (by show (List.map _ _).length ≤ _; rw [hp.length_eq]; omega) (fun s h => hs s (hp.subset h)) (by show (List.map _ _).length ≤ _; rw [hp2.length_eq]; omega) (fun s h => ht s (hp2.subset h))
def tI : Ty := ⟨1, 0, ByteArray.empty, [], []⟩
def tX : Ty := ⟨6, 0, ⟨#[88]⟩, [], []⟩
def tA : Ty := ⟨8, 0, ByteArray.empty, [⟨#[97]⟩, ⟨#[98]⟩], [fnT tX tI, tI]⟩
theorem rec_awake : recT [⟨#[98]⟩, ⟨#[97]⟩] [tI, fnT tX tI] = (tA, true) := by
  have e : RC.sortQ ([⟨#[98]⟩, ⟨#[97]⟩].zip [tI, fnT tX tI]) = [(⟨#[97]⟩, fnT tX tI), (⟨#[98]⟩, tI)] := by
    have h1 : strLt ⟨#[97]⟩ ⟨#[98]⟩ = true := by rw [RC.strLt_key]; decide +kernel
    show RC.insQ _ (RC.insQ _ []) = _
    rw [RC.insQ, RC.insQ, h1]; rfl
  unfold recT
  rw [e]
  have h2 : risingR ([(⟨#[97]⟩, fnT tX tI), (⟨#[98]⟩, tI)].map Prod.fst) none = true := by decide +kernel
  rw [h2]; rfl
end Go.Sh.T

/- awake, TyRight, TySame, over steps. -/
namespace Go.Sh.T.Q
open Go Go.Sh Go.Proofs Go.Sort
set_option linter.unusedSimpArgs false
set_option linter.unusedVariables false
set_option maxRecDepth 100000
theorem s7 (t : Ty) (ok : t.Ok) (h : Heap) : evw E 7 [.agg t.cells] h = some (.ret (.lit (.int .i64 t.much)), h) := stp (by kernel_rfl) (much_spec t h ok)
theorem s9 (t : Ty) (ok : t.Ok) (h : Heap) : evw E 9 [.agg t.cells] h = some (.ret (.lit (.bool t.right)), h) := stp (by kernel_rfl) (pright_spec t h ok)
theorem s10 (t : Ty) (ok : t.Ok) (h : Heap) : evw E 10 [.agg t.cells] h = some (.ret (.lit (.bool t.right)), h) := stp (by kernel_rfl) (right_spec t h ok)
theorem s11 (t : Ty) (ok : t.Ok) (hv : t.pre.length ≤ 1048576) (h : Heap) : evw E 11 [.agg t.cells] h = some (.ret (.lit (.int .i64 t.nodes)), h) := stp (by kernel_rfl) (nodes45 t ok hv h)
theorem s12 (t : Ty) (ok : t.Ok) (h : Heap) : evw E 12 [.agg t.cells] h = some (.ret (.lit (.int .i64 t.nodes)), h) := stp (by kernel_rfl) (nodes_spec t h ok)
theorem s13 (t : Ty) (ok : t.Ok) (h : Heap) : evw E 13 [.agg t.cells] h = some (.ret (.lit (.int .i64 t.deep)), h) := stp (by kernel_rfl) (deep47 t h ok)
theorem s14 (t : Ty) (ok : t.Ok) (h : Heap) : evw E 14 [.agg t.cells] h = some (.ret (.lit (.int .i64 t.deep)), h) := stp (by kernel_rfl) (deep48 t h ok)
theorem s15 (t : Ty) (ok : t.Ok) (k : Int) (h : Heap) : evw E 15 [.agg t.cells, .lit (.int .i64 k)] h = some (.ret (.lit (.bool (t.has k))), h) := stp (by kernel_rfl) (has15 t ok k h)
theorem s16 (t : Ty) (ok : t.Ok) (k : Int) (h : Heap) : evw E 16 [.agg t.cells, .lit (.int .i64 k)] h = some (.ret (.lit (.bool (t.has k))), h) := stp (by kernel_rfl) (has_spec t k h ok)
theorem s17 (l m : List ByteArray) (hl : l.length ≤ maxLen) (h : Heap) : evw E 17 [.sl 1 (l.map strC), .sl 1 (m.map strC)] h = some (.ret (.lit (.bool (eqd l m))), h) := stp (by kernel_rfl) (same79e l m hl h)
theorem s18 (t : Ty) (ok : t.Ok) (hv : t.pre.length ≤ 1048576) (h : Heap) : evw E 18 [.agg t.cells] h = some (.ret (.sl 1 (t.rvars.map strC)), h) := stp (by kernel_rfl) (vars29 t ok hv h)
theorem s19 (t : Ty) (ok : t.Ok) (hv : t.pre.length ≤ 1048576) (h : Heap) : evw E 19 [.agg t.cells] h = some (.ret (.sl 1 (t.rvars.map strC)), h) := stp (by kernel_rfl) (vars30 t h ok hv)
theorem s20 (t : Ty) (ok : t.Ok) (h : Heap) : evw E 20 [.agg t.cells] h = some (.ret (.lit (.bool (!decide (t.pre.length > 300)))), h) := stp (by kernel_rfl) (fits20 t ok h)
theorem s21 (t : Ty) (ok : t.Ok) (hv : t.pre.length ≤ 1048576) (h : Heap) : evw E 21 [.agg t.cells] h = some (.ret (.lit (.bool (!decide (t.pre.length > 300)))), h) := stp (by kernel_rfl) (fits21 t ok hv h)
theorem s22 (t u : Ty) (ok : t.Ok) (h : Heap) : evw E 22 [.agg t.cells, .agg u.cells] h = some (.ret (.lit (.bool (eqd t u))), h) := stp (by kernel_rfl) (same101 t u h ok)
theorem s23 (t u : Ty) (ok : t.Ok) (h : Heap) : evw E 23 [.agg t.cells, .agg u.cells] h = some (.ret (.lit (.bool (eqd t u))), h) := stp (by kernel_rfl) (same23 t u h ok)
theorem s25 (ls : List ByteArray) (ts : List Ty) (hl : ls.length ≤ 1048576) (h : Heap) : evw E 25 [.sl 1 (ls.map strC), .sl 5 (ts.map Ty.cells)] h = some (.ret (.tup [.agg (recT ls ts).1.cells, .lit (.bool (recT ls ts).2)]), h) := by
  rw [← recA_tup]; exact evw_prim primsC (p := p25x) (by kernel_rfl) (p25x_run _ ls ts hl h)
theorem s27 (t : Ty) (ok : t.Ok) (s : ByteArray) (h : Heap) : evw E 27 [.agg t.cells, .lit (.string s)] h = some (.ret (.tup [.agg ((fieldT t s).getD zeroT).cells, .lit (.bool (fieldT t s).isSome)]), h) := stp (by kernel_rfl) (field174 t ok s h)
theorem s29 (a b : Ty) (h : Heap) : evw E 29 [.agg a.cells, .agg b.cells] h = some (.ret (.agg (fnT a b).cells), h) := stp (by kernel_rfl) (fun29 a b h)
theorem lenQ (es : List (List AV)) : lenA E 22 (.sl 1 es) = some (es.length : Int) := (Eq.refl _).trans (by kernel_rfl)
theorem eqQ (x y : Bool) : binAV E .eql 4 (.lit (.bool x)) (.lit (.bool y)) = some (.lit (.bool (eqd x y))) := by
  have h : binAV E .eql 4 (.lit (.bool x)) (.lit (.bool y)) = some (.lit (.bool (x == y))) := by cases x <;> cases y <;> kernel_rfl
  rw [h]; cases x <;> cases y <;> simp [eqd]
theorem tI_ok : tI.Ok := .mk (show (Lit.int .i64 1).wf = true by decide) (show (Lit.int .i64 0).wf = true by decide) (Nat.zero_le _) (Nat.zero_le _) (fun _ h => by cases h) (Nat.zero_le _) (fun _ h => by cases h)
theorem tX_ok : tX.Ok := .mk (show (Lit.int .i64 6).wf = true by decide) (show (Lit.int .i64 0).wf = true by decide) (show 1 ≤ maxLen by decide) (Nat.zero_le _) (fun _ h => by cases h) (Nat.zero_le _) (fun _ h => by cases h)
theorem tA_ok : tA.Ok := by
  have := recT_ok (ls := [⟨#[98]⟩, ⟨#[97]⟩]) (ts := [tI, fnT tX tI]) (by decide) (fun s hs => by
    rcases List.mem_cons.1 hs with e | e
    · rw [e]; show 1 ≤ maxLen; decide
    · rw [List.mem_singleton.1 e]; show 1 ≤ maxLen; decide) (fun t ht => by
    rcases List.mem_cons.1 ht with e | e
    · rw [e]; exact tI_ok
    · rw [List.mem_singleton.1 e]; exact fnT_ok tX_ok tI_ok)
  rw [rec_awake] at this; exact this
theorem i0 (a b : AV) : ([a, b] : List AV)[0]? = some a := rfl
theorem i1 (a b : AV) : ([a, b] : List AV)[1]? = some b := rfl
theorem cX : ([.lit (.int .i64 6), .lit (.int .i64 0), .lit (.string ⟨#[88]⟩), .sl 1 [], .sl 5 []] : List AV) = tX.cells := by rw [Ty.cells_eq]; rfl
theorem cI : ([.lit (.int .i64 1), .lit (.int .i64 0), .lit (.string ByteArray.empty), .sl 1 [], .sl 5 []] : List AV) = tI.cells := by rw [Ty.cells_eq]; rfl
theorem fA : fieldT tA ⟨#[98]⟩ = some tI := by
  unfold fieldT
  have h : ix tA.labels ⟨#[98]⟩ = some 1 := by decide +kernel
  rw [show eqd tA.k 8 = true from eqd_self _, cond_true, h]; rfl
theorem awake8 (h : Heap) : evw E 8 [] h = some (.ret (.lit (.bool true)), h) := by
  refine evw_run primsC 0 rfl rfl rfl ?_
  have a1 := s25 [⟨#[98]⟩, ⟨#[97]⟩] [tI, fnT tX tI] (by decide) h
  rw [rec_awake] at a1
  have a1 : evw E 25 [.sl 1 [[.lit (.string ⟨#[98]⟩)], [.lit (.string ⟨#[97]⟩)]], .sl 5 [tI.cells, (fnT tX tI).cells]] h = some (.ret (.tup [.agg tA.cells, .lit (.bool true)]), h) := a1
  have a2 := s27 tA tA_ok ⟨#[98]⟩ h
  rw [fA, Option.getD_some] at a2
  have hpre : tA.pre.length = 5 := by decide +kernel
  have e1 : tA.right = true := by decide +kernel
  have e2 : (tA.nodes == 5) = true := by decide +kernel
  have e3 : (tA.deep == 3) = true := by decide +kernel
  have e4 : (((tA.rvars.map strC).length : Int) == 1) = true := by decide +kernel
  have e5 : tA.has 7 = true := by decide +kernel
  have e6 : tI.cells.getD 0 .dead = .lit (.int .i64 1) := by rw [Ty.cells_eq]; rfl
  rw [nf8, cX, cI, s29, onOut_ret, aggS, bind_some', Ty.cells_len, b5, condT, Ty.refold, a1, onOut_ret, tupS, bind_some', i0, bind_some', bind_some', i1, bind_some', aggS, bind_some', Ty.cells_len, b5, condT, Ty.refold, a2, onOut_ret, tupS, bind_some', i0, bind_some', bind_some', i1, bind_some', aggS, bind_some', Ty.cells_len, b5, condT, boolB, bind_some', condT,
    Option.isSome_some, boolB, bind_some', condT, s9 _ tA_ok, onOut_ret, e1, boolB, bind_some', condT, s11 _ tA_ok (by rw [hpre]; decide), onOut_ret, bin_int, eqlI, bind_some', boolB, bind_some', e2, condT, s13 _ tA_ok, onOut_ret, bin_int, eqlI, bind_some', boolB, bind_some', e3, condT, e6, bin_int, eqlI, bind_some', boolB, bind_some',
    show ((1 : Int) == 1) = true from rfl, condT, s18 _ tA_ok (by rw [hpre]; decide), onOut_ret, lenQ, bind_some', bin_int, eqlI, bind_some', boolB, bind_some', e4, condT, s20 _ tA_ok, onOut_ret, hpre, boolB, bind_some', show (!decide (5 > 300)) = true from rfl, condT, s22 _ _ tA_ok, onOut_ret, eqd_self, boolB, bind_some', condT, s15 _ tA_ok, onOut_ret, e5]
theorem tyRight_law (t : Ty) (ok : t.Ok) (k : Int) (hk : (Lit.int .i64 k).wf = true) (hw : volC t.cells ≤ 1048576) : evw E 3 [.agg t.cells, .lit (.int .i64 k)] [] = some (.ret (.lit (.bool true)), []) := by
  have hv := Nat.le_trans (Ty.pre_vol t) hw
  have hl := Ty.rvars_len t
  have hm : maxLen = 9223372036854775807 := rfl
  refine evw_run primsC 0 rfl rfl rfl ?_
  rw [nf3, aggS, bind_some', Ty.cells_len, b5, condT, Ty.refold, s7 _ ok, onOut_ret, bin_int, gtrI, bind_some', boolB, bind_some']
  refine cond_split (fun h1 => by rw [awake8, onOut_ret]) (fun h1 => ?_)
  simp only [s9 _ ok, s10 _ ok, s11 t ok hv, s12 _ ok, s13 _ ok, s14 _ ok, s15 t ok, s16 _ ok, s18 t ok hv, s19 t ok hv, s17 t.rvars t.rvars (by omega), s20 t ok, s21 t ok hv, onOut_ret, eqQ, bin_int, eqlI, int_eqd, eqd_self, bind_some', boolB, condT, awake8]
theorem tySame_law (a b : Ty) (oa : a.Ok) (ob : b.Ok) : evw E 4 [.agg a.cells, .agg b.cells] [] = some (.ret (.lit (.bool true)), []) := by
  refine evw_run primsC 0 rfl rfl rfl ?_
  rw [nf4, aggS, bind_some', Ty.cells_len, b5, condT, aggS, bind_some', Ty.cells_len, b5, condT, Ty.refold, Ty.refold, s7 _ oa, onOut_ret, bin_int, gtrI, bind_some', boolB, bind_some']
  refine cond_split (fun h1 => by rw [awake8, onOut_ret]) (fun h1 => ?_)
  rw [s7 _ ob, onOut_ret, bin_int, gtrI, bind_some', boolB, bind_some']
  refine cond_split (fun h1 => by rw [awake8, onOut_ret]) (fun h1 => ?_)
  have hs : eqd b a = eqd a b := by rw [Bool.eq_iff_iff, eqd_iff, eqd_iff]; exact ⟨Eq.symm, Eq.symm⟩
  simp only [s22 _ _ oa, s22 _ _ ob, s23 _ _ oa, onOut_ret, eqQ, eqd_self, bind_some', boolB, condT, hs, awake8]
end Go.Sh.T.Q

/- TyMakes, TyTurned. -/
namespace Go.Sh.T
open Go Go.Sh Go.Proofs Go.Sort
set_option linter.unusedSimpArgs false
set_option linter.unusedVariables false
set_option maxRecDepth 100000
end Go.Sh.T
namespace Go.Sh.T.Q
open Go Go.Sh Go.Proofs Go.Sort
set_option linter.unusedSimpArgs false
set_option linter.unusedVariables false
set_option maxRecDepth 100000
end Go.Sh.T.Q

/- What a row leans on. -/
namespace Go.Sh.T
open Go Go.Sh Go.Proofs
set_option linter.unusedSimpArgs false
set_option linter.unusedVariables false
theorem int_of' {vs : List AV} (h : TypedC E 3 vs) : ∃ n, vs = [.lit (.int .i64 n)] ∧ (Lit.int .i64 n).wf = true := int_of h ty3
def flatTs : List Nat := [3, 4, 5, 9, 22, 23, 25]
theorem flatTs_ok : flatAll E flatTs = true := by kernel_rfl

mutual
theorem dsz_le {H : Type} : ∀ d : DataW H, dsz d ≤ Ytbmgmgeliokalaa.Rows.uptoBulk d
  | .lit l => by cases l <;> simp [dsz, Ytbmgmgeliokalaa.Rows.uptoBulk]
  | .nil => by simp [dsz, Ytbmgmgeliokalaa.Rows.uptoBulk]
  | .ptr d => by simp [dsz, Ytbmgmgeliokalaa.Rows.uptoBulk]
  | .slice e s => by have := dszL_le e; simp only [dsz, Ytbmgmgeliokalaa.Rows.uptoBulk]; omega
  | .agg p => by have := dszL_le p; simp only [dsz, Ytbmgmgeliokalaa.Rows.uptoBulk]; omega
  | .iface _ d => by simp [dsz, Ytbmgmgeliokalaa.Rows.uptoBulk]
  | .map _ => by simp [dsz, Ytbmgmgeliokalaa.Rows.uptoBulk]
  | .held _ => by simp [dsz, Ytbmgmgeliokalaa.Rows.uptoBulk]
theorem dszL_le {H : Type} : ∀ l : List (DataW H), dszL l ≤ Ytbmgmgeliokalaa.Rows.uptoBulkAll l
  | [] => by simp [dszL, Ytbmgmgeliokalaa.Rows.uptoBulkAll]
  | d :: r => by have := dsz_le d; have := dszL_le r; simp only [dszL, Ytbmgmgeliokalaa.Rows.uptoBulkAll]; omega
end
theorem right_row (t : Ty) (ok : t.Ok) (k : Int) (hk : (Lit.int .i64 k).wf = true) (hw : volC t.cells ≤ 1048576) (h : Heap) (hh : h = []) : evw Q.E 3 [.agg t.cells, .lit (.int .i64 k)] h = some (.ret (.lit (.bool true)), h) := by subst hh; exact Q.tyRight_law t ok k hk hw
end Go.Sh.T
