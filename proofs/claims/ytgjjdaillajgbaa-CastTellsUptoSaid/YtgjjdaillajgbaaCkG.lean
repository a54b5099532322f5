/- CkG: part of the proof: a shadow of the machine that is proved sound, and what the functions of this seat compute. Conditions: none. -/
import Derived.Test.YtgjjdaillajgbaaCkE
/- Casts: the reference's cast is the plain one. -/
namespace Go.Sh.T
open Go Go.Sh
set_option linter.unusedSimpArgs false
set_option linter.unusedVariables false
set_option maxRecDepth 100000

theorem b13 : Nat.beq 13 13 = true := rfl
theorem Got.re (g : Got) : [g.cells.getD 0 .dead, g.cells.getD 1 .dead, g.cells.getD 2 .dead, g.cells.getD 3 .dead, g.cells.getD 4 .dead, g.cells.getD 5 .dead, g.cells.getD 6 .dead, g.cells.getD 7 .dead, g.cells.getD 8 .dead, g.cells.getD 9 .dead, g.cells.getD 10 .dead, g.cells.getD 11 .dead, g.cells.getD 12 .dead] = g.cells := by
  cases g <;> (rw [Got.cells, Val.cells_eq]; rfl)
theorem Got.v10 (v : Val) : [(Got.ok v).cells.getD 0 .dead, (Got.ok v).cells.getD 1 .dead, (Got.ok v).cells.getD 2 .dead, (Got.ok v).cells.getD 3 .dead, (Got.ok v).cells.getD 4 .dead, (Got.ok v).cells.getD 5 .dead, (Got.ok v).cells.getD 6 .dead, (Got.ok v).cells.getD 7 .dead, (Got.ok v).cells.getD 8 .dead, (Got.ok v).cells.getD 9 .dead] = v.cells := by
  rw [Got.cells, Val.cells_eq]; rfl
theorem Got.g12o (v : Val) : (Got.ok v).cells.getD 12 .dead = .lit (.bool true) := by rw [Got.cells, Val.cells_eq]; rfl
theorem Got.g12b (s : ByteArray) (n : Int) : (Got.bl s n).cells.getD 12 .dead = .lit (.bool false) := by rw [Got.cells, zeroV_cells]; rfl

/-- The reference's way to hand on what it got. -/
theorem refEnd (g : Got) (h : Heap) : onOut (some (Out.ret (.agg g.cells), h)) (fun a h' => (aggOf a).bind fun l => cond (Nat.beq l.length 13) (some (Out.ret (.agg [l.getD 0 .dead, l.getD 1 .dead, l.getD 2 .dead, l.getD 3 .dead, l.getD 4 .dead, l.getD 5 .dead, l.getD 6 .dead, l.getD 7 .dead, l.getD 8 .dead, l.getD 9 .dead, l.getD 10 .dead, l.getD 11 .dead, l.getD 12 .dead]), h')) none) (fun _ _ _ => none) (fun _ _ => none) = some (Out.ret (.agg g.cells), h) := by
  rw [onOut_ret, aggS, bind_some', Got.cells_len, b13, condT, Got.re]

theorem wrap115 (v : Val) (a b : Ty) (ha : a.Ok) (s : ByteArray) (n : Int) (h : Heap) : evw E 115 [.agg v.cells, .agg a.cells, .agg b.cells, labA s n] h = some (.ret (.agg (wrapV v a b s n).cells), h) := by
  refine evw_run primsC 0 rfl rfl rfl ?_
  rw [nf115]
  simp only [aggS, bind_some', Val.cells_len, Ty.cells_len, b10, b5, b2, condT, g0, g1, Val.re, Ty.refold, wrap62 v a b ha, onOut_ret]
  rcases wrapV_label (v := v) (a := a) (b := b) (s := s) (n := n) with e | ⟨w, e⟩
  · rw [e]
    simp only [Got.tup, tupS, bind_some', t20, t21, aggS, Val.cells_len, b10, condT, notB, boolB, Bool.not_false, blame111, refEnd, aggS, bind_some', condT, Got.cells_len, b13, Got.re]
  · rw [e]
    simp only [Got.tup, tupS, bind_some', t20, t21, aggS, Val.cells_len, b10, condT, notB, boolB, Bool.not_true, condF, Val.re, good109, refEnd, aggS, bind_some', condT, Got.cells_len, b13, Got.re]

/-- Whichever base type it is: -1, if none. -/
noncomputable def baseN (v : Val) (t : Ty) : Int := bif eqd t.k 1 then (bif eqd v.k 1 then 1 else 0) else bif eqd t.k 2 then (bif eqd v.k 2 then 1 else 0) else bif eqd t.k 3 then (bif eqd v.k 3 then 1 else 0) else -1
theorem base155 (v : Val) (t : Ty) (h : Heap) : evw E 155 [.agg v.cells, .agg t.cells] h = some (.ret (.lit (.int .i64 (baseN v t))), h) := by
  refine evw_run primsC 4 rfl rfl rfl ?_
  rw [nf155]
  simp only [aggS, bind_some', Val.cells_len, Ty.cells_len, b10, b5, condT]
  have i1 : indexA 1 (.sl 1 [[.lit (.int .i64 0)], [.lit (.int .i64 1)], [.lit (.int .i64 2)], [.lit (.int .i64 3)]]) (.lit (.int .i64 1)) = some [.lit (.int .i64 1)] := rfl
  have i2 : indexA 1 (.sl 1 [[.lit (.int .i64 0)], [.lit (.int .i64 1)], [.lit (.int .i64 2)], [.lit (.int .i64 3)]]) (.lit (.int .i64 2)) = some [.lit (.int .i64 2)] := rfl
  have i3 : indexA 1 (.sl 1 [[.lit (.int .i64 0)], [.lit (.int .i64 1)], [.lit (.int .i64 2)], [.lit (.int .i64 3)]]) (.lit (.int .i64 3)) = some [.lit (.int .i64 3)] := rfl
  have p : ∀ x : Int, partA false 1 0 [.lit (.int .i64 x)] = some (.lit (.int .i64 x)) := fun _ => rfl
  have w1 : add64 1 1 = 2 := by unfold add64; rw [IntWalk.i64_in _ (by omega)]; rfl
  have w2 : add64 2 1 = 3 := by unfold add64; rw [IntWalk.i64_in _ (by omega)]; rfl
  have w3 : add64 3 1 = 4 := by unfold add64; rw [IntWalk.i64_in _ (by omega)]; rfl
  rw [show (4 : Nat) = 3 + 1 from rfl, Lp155_0_succ]
  simp only [Val.c0, Ty.c0, bin_int, leqI, eqlE, boolB, bind_some', i1, p, addI, w1, show decide ((1 : Int) ≤ 3) = true from rfl, condT]
  rw [show (3 : Nat) = 2 + 1 from rfl, Lp155_0_succ]
  simp only [bin_int, leqI, eqlE, boolB, bind_some', i2, p, addI, w2, show decide ((2 : Int) ≤ 3) = true from rfl, condT]
  rw [show (2 : Nat) = 1 + 1 from rfl, Lp155_0_succ]
  simp only [bin_int, leqI, eqlE, boolB, bind_some', i3, p, addI, w3, show decide ((3 : Int) ≤ 3) = true from rfl, condT]
  rw [show (1 : Nat) = 0 + 1 from rfl, Lp155_0_succ]
  simp only [bin_int, leqI, boolB, bind_some', show decide ((4 : Int) ≤ 3) = false from rfl, condF]
  unfold baseN
  cases h1 : eqd t.k 1 with
  | true => cases eqd v.k 1 <;> rfl
  | false =>
  cases h2 : eqd t.k 2 with
  | true => cases eqd v.k 2 <;> rfl
  | false =>
  cases h3 : eqd t.k 3 with
  | true => cases eqd v.k 3 <;> rfl
  | false => rfl

theorem apT' (acc : List Ty) (x : Ty) (h : acc.length ≤ 1048576) : Nat.ble ((acc.map Ty.cells).length + ([x.cells] : List (List AV)).length) maxApp = true := by
  rw [Nat.ble_eq, List.length_map]; show acc.length + 1 ≤ maxApp; unfold maxApp; omega
theorem apTE' (acc : List Ty) (x : Ty) : acc.map Ty.cells ++ [x.cells] = (acc ++ [x]).map Ty.cells := by simp
theorem unks156 (m : Nat) (hm : m ≤ 1048576) (h : Heap) : evw E 156 [.lit (.int .i64 (m : Int))] h = some (.ret (.sl 5 ((List.replicate m dynT).map Ty.cells)), h) := by
  have loop : ∀ (q i : Nat), i ≤ m → m < q + i → Lp156_0 (evw E) (m + 1) h q h (.lit (.int .i64 (m : Int))) ((List.replicate i dynT).map Ty.cells) (.lit (.int .i64 (i : Int))) = some (.ret (.sl 5 ((List.replicate m dynT).map Ty.cells)), h) := by
    intro q
    induction q with
    | zero => intro i h1 h2; omega
    | succ q ih =>
      intro i h1 h2
      rw [Lp156_0_succ, bin_int, lssI, bind_some', boolB, bind_some']
      by_cases hi : i < m
      · rw [ltT hi, condT, dyn68, onOut_ret, aggS, bind_some', Ty.cells_len, b5, condT, Ty.refold, apT' _ _ (by rw [List.length_replicate]; omega), condT, apTE', bin_int, addI, bind_some', incI (by omega), ← List.replicate_succ']
        exact ih (i + 1) hi (by omega)
      · rw [ltF hi, condF, show i = m from by omega]
  refine evw_run primsC (m + 1) rfl rfl rfl ?_
  rw [nf156]
  exact loop (m + 1) 0 (Nat.zero_le _) (by omega)

theorem fldL_congr {f g : Nat → Val → Got} {v : Val} {s : ByteArray} {n : Int} {all : List ByteArray} : ∀ (r : List ByteArray) (i : Nat) (acc : List Val), (∀ j y, i ≤ j → j < i + r.length → f j y = g j y) → fldL f v s n all i r acc = fldL g v s n all i r acc
  | [], i, acc, _ => by rw [fldL, fldL]
  | x :: r, i, acc, h => by
    rw [fldL, fldL]
    cases fieldV v x with
    | none => rfl
    | some y =>
      show (f i y).bind _ = (g i y).bind _
      rw [h i y (Nat.le_refl _) (by simp)]
      cases g i y with
      | bl a b => rfl
      | ok w => exact fldL_congr r (i + 1) _ fun j y h1 h2 => h j y (by omega) (by simp at h2 ⊢; omega)
theorem fieldsF_congr {f g : Nat → Val → Got} {v : Val} {s : ByteArray} {n : Int} {ls : List ByteArray} (h : ∀ j y, j < ls.length → f j y = g j y) : fieldsF f v ls s n = fieldsF g v ls s n := by
  unfold fieldsF
  rw [fldL_congr ls 0 [] fun j y _ h2 => h j y (by omega)]

noncomputable def pairF (d : DoF) (from_ to : List Ty) (s : ByteArray) (n : Int) (i : Nat) (y : Val) : Got := match from_[i]?, to[i]? with
  | some t, some u => d y t u s n
  | _, _ => .bl s n

/-- The reference's cast, so many levels deep. -/
def RefOk (l : List Seal) (k : Nat) : Prop := ∀ (v : Val) (a b : Ty) (s : ByteArray) (n : Int) (h : Heap), v.Ok → Fit a → Fit b → s.size ≤ maxLen → v.dep < k →
  evw E 60 [.sl 12 (l.map Seal.cells), .agg v.cells, .agg a.cells, .agg b.cells, labA s n] h = some (.ret (.agg (castF l k v a b s n).cells), h)

section
variable {l : List Seal} {k : Nat} (ih : RefOk l k)
include ih

theorem fields117 (v : Val) (ov : v.Ok) (ls : List ByteArray) (hls : ls.length ≤ 1048576) (from_ to : List Ty) (hf : ∀ t ∈ from_, Fit t) (ht : ∀ t ∈ to, Fit t) (s : ByteArray) (n : Int) (hs : s.size ≤ maxLen) (hd : v.dep ≤ k) (h : Heap) :
    evw E 117 [.sl 12 (l.map Seal.cells), .agg v.cells, .sl 1 (ls.map strC), .sl 5 (from_.map Ty.cells), .sl 5 (to.map Ty.cells), labA s n] h = some (.ret (.agg (fieldsF (pairF (castF l k) from_ to s n) v ls s n).cells), h) := by
  have loop : ∀ (q i : Nat) (acc : List Val), i ≤ ls.length → ls.length < q + i → acc.length = i →
      Lp117_0 (evw E) (ls.length + 1) h q h (.sl 12 (l.map Seal.cells)) (.sl 1 (ls.map strC)) (.sl 5 (from_.map Ty.cells)) (.sl 5 (to.map Ty.cells)) (v.cells.getD 0 .dead) (v.cells.getD 1 .dead) (v.cells.getD 2 .dead) (v.cells.getD 3 .dead) (v.cells.getD 4 .dead) (v.cells.getD 5 .dead) (v.cells.getD 6 .dead) (v.cells.getD 7 .dead) (v.cells.getD 8 .dead) (v.cells.getD 9 .dead) (.lit (.string s)) (.lit (.int .i64 n)) (.lit (.int .i64 0)) (.lit (.int .i64 0)) (.lit (.int .i64 0)) (.lit (.bool false)) (.lit (.string ByteArray.empty)) (.lit (.string ByteArray.empty)) (.lit (.int .i64 0)) [] [] [] (.lit (.string ByteArray.empty)) (.lit (.int .i64 0)) (.lit (.bool false)) (.lit (.int .i64 4)) (.lit (.int .i64 0)) (.lit (.int .i64 0)) (.lit (.bool false)) (.lit (.string ByteArray.empty)) (.lit (.string ByteArray.empty)) (.lit (.int .i64 0)) [] (.sl 1 (ls.map strC)) (acc.map Val.cells) (.lit (.int .i64 (i : Int))) =
      some (.ret (.agg (fldL (pairF (castF l k) from_ to s n) v s n ls i (ls.drop i) acc).cells), h) := by
    intro q
    induction q with
    | zero => intro i acc h1 h2; omega
    | succ q ihq =>
      intro i acc h1 h2 h3
      rw [Lp117_0_succ, lenA31, bind_some', List.length_map, bin_int, lssI, bind_some', boolB, bind_some']
      by_cases hi : i < ls.length
      · rw [ltT hi, condT, indexA_map _ _ _ _ hi, bind_some', part_str, bind_some', Val.re, field129 v ov, onOut_ret, tupS, bind_some', t20, bind_some', bind_some', t21, bind_some', aggS, bind_some', Val.cells_len, b10, condT, notB, bind_some', boolB, bind_some', List.drop_eq_getElem_cons hi, fldL]
        cases hy : fieldV v ls[i] with
        | none =>
          simp only [Option.isSome_none, Bool.not_false, condT, blame111, refEnd, aggS, bind_some', condT, Got.cells_len, b13, Got.re]
        | some y =>
          simp only [Option.isSome_some, Bool.not_true, condF, Option.getD_some, Val.re, blame111, refEnd, aggS, bind_some', condT, Got.cells_len, b13, Got.re, lenA29, List.length_map, bind_some', bin_int, geqI, boolB]
          by_cases hfi : i < from_.length
          · rw [decide_eq_false (show ¬ (i : Int) ≥ (from_.length : Int) by omega), condF]
            by_cases hti : i < to.length
            · have hdo := ih y from_[i] to[i] s n h (ov.kid (fieldV_mem hy).1) (hf _ (List.getElem_mem hfi)) (ht _ (List.getElem_mem hti)) hs (field_dep hy hd)
              rw [decide_eq_false (show ¬ (i : Int) ≥ (to.length : Int) by omega), condF, indexA_map _ _ _ _ hfi, bind_some', partA_full (Ty.cells_len _), bind_some', indexA_map _ _ _ _ hti, bind_some', partA_full (Ty.cells_len _), bind_some', hdo, onOut_ret, aggS, bind_some', Got.cells_len, b13, condT]
              have hp : pairF (castF l k) from_ to s n i y = castF l k y from_[i] to[i] s n := by unfold pairF; rw [List.getElem?_eq_getElem hfi, List.getElem?_eq_getElem hti]
              rw [hp]
              cases castF l k y from_[i] to[i] s n with
              | bl p q =>
                rw [Got.re, Got.g12b, notB, bind_some', boolB, bind_some', Bool.not_false, condT]; rfl
              | ok w =>
                rw [Got.g12o, notB, bind_some', boolB, bind_some', Bool.not_true, condF, Got.v10, show Nat.ble (acc.length + ([w.cells] : List (List AV)).length) maxApp = true from by (have := apV acc w (by omega); rwa [List.length_map] at this), condT, apVE, addI, bind_some', incI (by omega), Got.bind_ok]
                exact ihq (i + 1) (acc ++ [w]) hi (by omega) (by simp [h3])
            · have hp : pairF (castF l k) from_ to s n i y = .bl s n := by unfold pairF; rw [List.getElem?_eq_getElem hfi, List.getElem?_eq_none (by omega)]
              rw [decide_eq_true (show (i : Int) ≥ (to.length : Int) by omega), condT, hp]; rfl
          · have hp : pairF (castF l k) from_ to s n i y = .bl s n := by unfold pairF; rw [List.getElem?_eq_none (by omega)]
            rw [decide_eq_true (show (i : Int) ≥ (from_.length : Int) by omega), condT, hp]; rfl
      · rw [ltF hi, condF, List.drop_of_length_le (by omega), fldL]
        have := good109 (recV ls acc) h
        rw [recV_cells] at this
        rw [this]
        exact refEnd _ _
  refine evw_run primsC (ls.length + 1) rfl rfl rfl ?_
  rw [nf117]
  simp only [aggS, bind_some', Val.cells_len, b10, b2, condT, g0, g1, blame111, refEnd, aggS, bind_some', condT, Got.cells_len, b13, Got.re, one_sl]
  rw [show binAV E .neq 3 (v.cells.getD 0 .dead) (.lit (.int .i64 4)) = some (.lit (.bool (!(eqd v.k 4)))) from by rw [Val.c0, bin_int, neqE], bind_some', boolB, bind_some']
  unfold fieldsF
  cases eqd v.k 4 with
  | false => rfl
  | true =>
    have := loop (ls.length + 1) 0 [] (Nat.zero_le _) (by omega) rfl
    rw [List.drop_zero] at this
    rw [Bool.not_true, condF, cond_true]
    exact this

theorem reveal112 (hl : SealsFit l) (v : Val) (b : Ty) (s : ByteArray) (n : Int) (h : Heap) (ov : v.Ok) (fb : Fit b) (hs : s.size ≤ maxLen) (hd : v.dep ≤ k) :
    evw E 112 [.sl 12 (l.map Seal.cells), .agg v.cells, .agg b.cells, labA s n] h = some (.ret (.agg (revealF (castF l k) l v b s n).cells), h) := by
  refine evw_run primsC 0 rfl rfl rfl ?_
  rw [nf112]
  simp only [aggS, bind_some', Val.cells_len, Ty.cells_len, b10, b5, b2, condT, g0, g1, Ty.refold]
  have e1 : eqd (v.kids.length : Int) 1 = eqd v.kids.length 1 := by rw [Bool.eq_iff_iff, eqd_iff, eqd_iff]; omega
  have ho := opaque_ref l (fun s hs => (hl s hs).1) v.n h
  simp only [show ((findT l v.n).2 && (findT l v.n).1.bound.same tyTop) = opq l v.n from rfl] at ho
  simp only [Val.c0, Val.c1, Val.c9, bind_some', rfind_spec, onOut_ret, tupS, t20, t21, aggS, Seal.len, show Nat.beq 12 12 = true from rfl, condT, Seal.reRep, Seal.reBound, Seal.g10, Seal.g11, bin_int, neqE, boolB, lenA55, List.length_map, blame111, notB, refEnd, aggS, bind_some', condT, Got.cells_len, b13, Got.re, e1, ho]
  unfold revealF hid
  cases h1 : eqd v.k 8 with
  | false => rfl
  | true =>
  cases h2 : eqd v.kids.length 1 with
  | false => rfl
  | true =>
  cases h3 : (findT l v.n).2 with
  | false => rfl
  | true =>
  cases h4 : opq l v.n with
  | true => rfl
  | false =>
  have hk : v.kids = [v.kids.headD zeroV] := one_head h2
  generalize v.kids.headD zeroV = x at hk
  have hx : x ∈ v.kids := by rw [hk]; exact List.mem_singleton.2 rfl
  have hsf := hl _ (findT_mem h3)
  have hdx := dep_kid (show eqd v.k 6 = false from eqd_f (by rw [eqd_iff.1 h1]; decide)) hx
  have hdo := ih x (findT l v.n).1.rep (findT l v.n).1.bound (findT l v.n).1.df (findT l v.n).1.nd h (ov.kid hx) hsf.2.1 hsf.2.2 hsf.1.df (by omega)
  have j0 : indexA 10 (.sl 10 (v.kids.map Val.cells)) (.lit (.int .i64 0)) = some x.cells := by
    rw [hk]; exact indexA_map [x] Val.cells 10 0 (show 0 < 1 by decide)
  simp only [Bool.not_true, condF, j0, bind_some', partA_full (Val.cells_len _), hdo, onOut_ret, aggS, Got.cells_len, b13, condT]
  cases hr : castF l k x (findT l v.n).1.rep (findT l v.n).1.bound (findT l v.n).1.df (findT l v.n).1.nd with
  | bl p q =>
    simp only [Got.re]
    simp only [Got.g12b, notB, bind_some', boolB, Bool.not_false, condT]; rfl
  | ok w =>
    have hg := castF_good l (fun s hs => (hl s hs).1) k x _ _ _ _ x.dep w hsf.1.rep hsf.1.bound hsf.1.df ⟨ov.kid hx, Nat.le_refl _⟩ hr
    have hdw := ih w (findT l v.n).1.bound b s n h hg.ok hsf.2.2 fb hs (by have := hg.dep; omega)
    simp only [Got.v10, Got.g12o, notB, bind_some', boolB, Bool.not_true, condF, hdw, refEnd, aggS, bind_some', condT, Got.cells_len, b13, Got.re]; rfl

theorem out113 (hl : SealsFit l) (v : Val) (b : Ty) (s : ByteArray) (n : Int) (h : Heap) (ov : v.Ok) (fb : Fit b) (hs : s.size ≤ maxLen) (hd : v.dep ≤ k) :
    evw E 113 [.sl 12 (l.map Seal.cells), .agg v.cells, .agg b.cells, labA s n] h = some (.ret (.agg (outF (castF l k) l v b s n).cells), h) := by
  refine evw_run primsC 0 rfl rfl rfl ?_
  rw [nf113]
  have hq := knownV_cases v
  simp only [aggS, bind_some', Val.cells_len, Ty.cells_len, b10, b5, b2, condT, g0, g1, Val.re, Ty.refold, good109, blame111, reveal112 ih hl v b s n h ov fb hs hd, base155, unk64, onOut_ret, refEnd, aggS, bind_some', condT, Got.cells_len, b13, Got.re]
  simp only [Val.c0, Val.c1, Val.c7, Val.c9, Ty.c0, Ty.c1, Ty.c3, Ty.c4, bin_int, eqlE, geqI, boolB, bind_some', lenA55, lenA29, lenA31, List.length_map, unks156 _ fb.lab, onOut_ret]
  unfold outF
  cases g1 : eqd v.k 8 with
  | true =>
    rw [condT, cond_true]
    cases g2 : eqd b.k 9 with
    | true =>
      rw [condT, Bool.true_and]
      cases g3 : eqd b.n v.n <;> rfl
    | false => rfl
  | false =>
  rw [condF, cond_false]
  unfold baseN
  cases g2 : eqd b.k 1 with
  | true => cases eqd v.k 1 <;> (simp only [cond_true, cond_false, show decide ((1 : Int) ≥ 0) = true from rfl, show decide ((0 : Int) ≥ 0) = true from rfl, eqd_self, eqd_f (show (1 : Int) ≠ 0 by decide)])
  | false =>
  cases g3 : eqd b.k 2 with
  | true => cases eqd v.k 2 <;> (simp only [cond_true, cond_false, show decide ((1 : Int) ≥ 0) = true from rfl, show decide ((0 : Int) ≥ 0) = true from rfl, eqd_self, eqd_f (show (1 : Int) ≠ 0 by decide)])
  | false =>
  cases g4 : eqd b.k 3 with
  | true => cases eqd v.k 3 <;> (simp only [cond_true, cond_false, show decide ((1 : Int) ≥ 0) = true from rfl, show decide ((0 : Int) ≥ 0) = true from rfl, eqd_self, eqd_f (show (1 : Int) ≠ 0 by decide)])
  | false =>
  simp only [cond_false, show decide ((-1 : Int) ≥ 0) = false from rfl]
  cases g5 : eqd b.k 7 with
  | true =>
    rw [condT, cond_true]
    have e1 : eqd (v.kids.length : Int) 1 = eqd v.kids.length 1 := by rw [Bool.eq_iff_iff, eqd_iff, eqd_iff]; omega
    have e2 : eqd (v.types.length : Int) 2 = eqd v.types.length 2 := by rw [Bool.eq_iff_iff, eqd_iff, eqd_iff]; omega
    have w1 := wrap115 v unkT b unkT_ok s n h
    rw [e1, e2]
    unfold knownV
    cases eqd v.k 6 with
    | false => rw [condF, w1, refEnd]; rfl
    | true =>
    rw [condT, Bool.true_and]
    cases hk : eqd v.kids.length 1 with
    | false => rw [condF, w1, refEnd]; rfl
    | true =>
    rw [condT, Bool.true_and]
    cases ht : eqd v.types.length 2 with
    | false => rw [condF, w1, refEnd]; rfl
    | true =>
    rw [condT, Bool.true_and]
    match hkk : v.kids, eqd_iff.1 hk, htt : v.types, eqd_iff.1 ht with
    | [x], _, [t, u], _ =>
    have i1 : indexA 5 (.sl 5 ([t, u].map Ty.cells)) (.lit (.int .i64 1)) = some u.cells := indexA_map [t, u] Ty.cells 5 1 (show 1 < 2 by decide)
    have i0 : indexA 5 (.sl 5 ([t, u].map Ty.cells)) (.lit (.int .i64 0)) = some t.cells := indexA_map [t, u] Ty.cells 5 0 (show 0 < 2 by decide)
    have j0 : indexA 10 (.sl 10 ([x].map Val.cells)) (.lit (.int .i64 0)) = some x.cells := indexA_map [x] Val.cells 10 0 (show 0 < 1 by decide)
    have hu : u.Ok := ov.ty (by rw [htt]; simp)
    have htk : t.Ok := ov.ty (by rw [htt]; simp)
    have w2 := wrap115 x t b htk s n h
    simp only [i1, i0, j0, bind_some', partA_full (Ty.cells_len _), partA_full (Val.cells_len _), same23 u unkT _ hu, onOut_ret, boolB, w1, w2, refEnd, aggS, bind_some', condT, Got.cells_len, b13, Got.re]
    show cond (eqd u unkT) _ _ = some (Out.ret (.agg (wrapV (cond (eqd u unkT) (x, t) (v, unkT)).1 (cond (eqd u unkT) (x, t) (v, unkT)).2 b s n).cells), h)
    cases eqd u unkT <;> rfl
  | false =>
  rw [condF, cond_false]
  cases g6 : eqd b.k 8 with
  | false => rfl
  | true =>
    rw [condT, cond_true]
    have hf := fields117 ih v ov b.labels fb.lab (List.replicate b.labels.length dynT) b.args (fun t ht => by rw [(List.mem_replicate.1 ht).2]; exact dynT_fit) (fun t ht => fb.arg ht) s n hs hd h
    rw [hf, refEnd]
    have hlen := (right_rec fb.right (eqd_iff.1 g6)).2
    refine congrArg (fun g => some (Out.ret (.agg (Got.cells g)), h)) (fieldsF_congr fun j y hj => ?_)
    unfold pairF
    rw [List.getElem?_replicate, if_pos hj]
    cases b.args[j]? <;> rfl

theorem in114 (v : Val) (b : Ty) (s : ByteArray) (n : Int) (h : Heap) (ov : v.Ok) (fb : Fit b) (hs : s.size ≤ maxLen) (hd : v.dep ≤ k) :
    evw E 114 [.sl 12 (l.map Seal.cells), .agg v.cells, .agg b.cells, labA s n] h = some (.ret (.agg (inF (castF l k) v b s n).cells), h) := by
  refine evw_run primsC 0 rfl rfl rfl ?_
  rw [nf114]
  simp only [aggS, bind_some', Val.cells_len, Ty.cells_len, b10, b5, b2, condT, g0, g1, Val.re, Ty.refold, good109, blame111, base155, unk64, onOut_ret, refEnd, aggS, bind_some', condT, Got.cells_len, b13, Got.re, wrap115 v b unkT fb.ok s n h]
  simp only [Ty.c0, Ty.c3, Ty.c4, bin_int, eqlE, geqI, boolB, bind_some', lenA31, List.length_map, unks156 _ fb.lab, onOut_ret]
  unfold inF
  unfold baseN
  cases g2 : eqd b.k 1 with
  | true => cases eqd v.k 1 <;> (simp only [cond_true, cond_false, show decide ((1 : Int) ≥ 0) = true from rfl, show decide ((0 : Int) ≥ 0) = true from rfl, eqd_self, eqd_f (show (1 : Int) ≠ 0 by decide)])
  | false =>
  cases g3 : eqd b.k 2 with
  | true => cases eqd v.k 2 <;> (simp only [cond_true, cond_false, show decide ((1 : Int) ≥ 0) = true from rfl, show decide ((0 : Int) ≥ 0) = true from rfl, eqd_self, eqd_f (show (1 : Int) ≠ 0 by decide)])
  | false =>
  cases g4 : eqd b.k 3 with
  | true => cases eqd v.k 3 <;> (simp only [cond_true, cond_false, show decide ((1 : Int) ≥ 0) = true from rfl, show decide ((0 : Int) ≥ 0) = true from rfl, eqd_self, eqd_f (show (1 : Int) ≠ 0 by decide)])
  | false =>
  simp only [cond_false, show decide ((-1 : Int) ≥ 0) = false from rfl]
  cases g5 : eqd b.k 7 with
  | true => rfl
  | false =>
  rw [condF, cond_false]
  cases g6 : eqd b.k 8 with
  | false => rfl
  | true =>
    rw [condT, cond_true]
    have hf := fields117 ih v ov b.labels fb.lab b.args (List.replicate b.labels.length dynT) (fun t ht => fb.arg ht) (fun t ht => by rw [(List.mem_replicate.1 ht).2]; exact dynT_fit) s n hs hd h
    rw [hf, refEnd]
    refine congrArg (fun g => some (Out.ret (.agg (Got.cells g)), h)) (fieldsF_congr fun j y hj => ?_)
    unfold pairF
    rw [List.getElem?_replicate, if_pos hj]
    cases b.args[j]? <;> rfl
end

/- records: the types ahead, as far as there are any -/
noncomputable def fromL (a : Ty) : List ByteArray → List Ty
  | [] => []
  | x :: r => match fieldT a x with
    | none => []
    | some t => t :: fromL a r
theorem fieldT_mem {a t : Ty} {x : ByteArray} (h : fieldT a x = some t) : t ∈ a.args := by
  unfold fieldT at h
  cases ht8 : eqd a.k 8 with
  | false => rw [ht8] at h; cases h
  | true =>
    rw [ht8, cond_true, Option.bind_eq_some_iff] at h
    obtain ⟨q, _, h⟩ := h
    exact List.mem_of_getElem? h
theorem fromL_fit {a : Ty} (fa : Fit a) : ∀ (r : List ByteArray) (t : Ty), t ∈ fromL a r → Fit t
  | x :: r, t, h => by
    unfold fromL at h
    split at h
    · cases h
    · rename_i u hu
      rcases List.mem_cons.1 h with e | e
      · rw [e]; exact fa.arg (fieldT_mem hu)
      · exact fromL_fit fa r t e
  | [], t, h => by cases h
theorem fromL_some {a : Ty} : ∀ (r : List ByteArray) (i : Nat), (∀ j, j ≤ i → ∃ t, fieldT a (r.getD j ByteArray.empty) = some t) → i < r.length → (fromL a r)[i]? = fieldT a (r.getD i ByteArray.empty)
  | [], i, _, h => by simp at h
  | x :: r, i, hall, hi => by
    obtain ⟨t, ht⟩ := hall 0 (Nat.zero_le _)
    have ht : fieldT a x = some t := ht
    unfold fromL
    rw [ht]
    cases i with
    | zero => exact ht.symm
    | succ i => exact fromL_some r i (fun j hj => hall (j + 1) (by omega)) (by simpa using hi)
theorem fromL_none {a : Ty} : ∀ (r : List ByteArray) (i : Nat), fieldT a (r.getD i ByteArray.empty) = none → (fromL a r)[i]? = none
  | [], i, _ => by unfold fromL; simp
  | x :: r, i, hn => by
    unfold fromL
    cases hx : fieldT a x with
    | none => simp
    | some t =>
      cases i with
      | zero => rw [show (x :: r).getD 0 ByteArray.empty = x from rfl, hx] at hn; cases hn
      | succ i => exact fromL_none r i hn
theorem recs_eq (d : DoF) (v : Val) (a b : Ty) (s : ByteArray) (n : Int) : fieldsF (pairF d (fromL a b.labels) b.args s n) v b.labels s n = recsF d v a b s n := by
  unfold recsF fieldsF
  have key : ∀ (m i : Nat) (acc : List Val), m + i = b.labels.length → (∀ j, j < i → ∃ t, fieldT a (b.labels.getD j ByteArray.empty) = some t) →
      fldL (pairF d (fromL a b.labels) b.args s n) v s n b.labels i (b.labels.drop i) acc = fldL (fun i y => match fieldT a (b.labels.getD i ByteArray.empty) with | none => .bl s n | some t => match b.args[i]? with | some u => d y t u s n | none => .bl s n) v s n b.labels i (b.labels.drop i) acc := by
    intro m
    induction m with
    | zero => intro i acc hi _; rw [List.drop_of_length_le (by omega), fldL, fldL]
    | succ m ih =>
      intro i acc hi hall
      have hlt : i < b.labels.length := by omega
      rw [List.drop_eq_getElem_cons hlt, fldL, fldL]
      cases fieldV v b.labels[i] with
      | none => rfl
      | some y =>
        show (pairF d (fromL a b.labels) b.args s n i y).bind _ = Got.bind _ _
        unfold pairF
        cases hft : fieldT a (b.labels.getD i ByteArray.empty) with
        | none => rw [fromL_none _ _ hft]; rfl
        | some t =>
          have hall' : ∀ j, j ≤ i → ∃ t, fieldT a (b.labels.getD j ByteArray.empty) = some t := fun j hj => by
            rcases Nat.lt_or_eq_of_le hj with h1 | h1
            · exact hall j h1
            · rw [h1]; exact ⟨t, hft⟩
          rw [fromL_some _ _ hall' hlt, hft]
          cases b.args[i]? with
          | none => rfl
          | some u =>
            show (d y t u s n).bind _ = (d y t u s n).bind _
            cases d y t u s n with
            | bl p q => rfl
            | ok w => exact ih (i + 1) _ (by omega) fun j hj => hall' j (by omega)
  have := key b.labels.length 0 [] rfl fun j hj => by omega
  rw [List.drop_zero] at this
  cases eqd v.k 4 with
  | false => rfl
  | true => exact this

section
variable {l : List Seal} {k : Nat} (ih : RefOk l k) (v : Val) (a b : Ty) (s : ByteArray) (n : Int) (h0 h : Heap) (ov : v.Ok) (fa : Fit a) (fb : Fit b) (hs : s.size ≤ maxLen) (hd : v.dep ≤ k)
include ih ov fa fb hs hd
theorem r4 : ∀ (q i : Nat) (acc : List Ty), i ≤ b.labels.length → b.labels.length < q + i → acc.length = i → acc ++ fromL a (b.labels.drop i) = fromL a b.labels → (∀ t ∈ acc, Fit t) →
    Lp60_4 (evw E) (b.labels.length + 1) h0 q h (.sl 12 (l.map Seal.cells)) (v.cells.getD 0 .dead) (v.cells.getD 1 .dead) (v.cells.getD 2 .dead) (v.cells.getD 3 .dead) (v.cells.getD 4 .dead) (v.cells.getD 5 .dead) (v.cells.getD 6 .dead) (v.cells.getD 7 .dead) (v.cells.getD 8 .dead) (v.cells.getD 9 .dead) (a.cells.getD 0 .dead) (a.cells.getD 1 .dead) (a.cells.getD 2 .dead) (a.cells.getD 3 .dead) (a.cells.getD 4 .dead) (b.cells.getD 0 .dead) (b.cells.getD 1 .dead) (b.cells.getD 2 .dead) (b.cells.getD 3 .dead) (b.cells.getD 4 .dead) (.lit (.string s)) (.lit (.int .i64 n)) (.lit (.int .i64 0)) (.lit (.int .i64 0)) (.lit (.int .i64 0)) (.lit (.bool false)) (.lit (.string ByteArray.empty)) (.lit (.string ByteArray.empty)) (.lit (.int .i64 0)) [] [] [] (.lit (.string ByteArray.empty)) (.lit (.int .i64 0)) (.lit (.bool false)) (acc.map Ty.cells) (.lit (.int .i64 (i : Int))) = some (.ret (.agg (recsF (castF l k) v a b s n).cells), h) := by
  have hfin : ∀ acc : List Ty, acc = fromL a b.labels → evw E 117 [.sl 12 (l.map Seal.cells), .agg v.cells, .sl 1 (b.labels.map strC), .sl 5 (acc.map Ty.cells), .sl 5 (b.args.map Ty.cells), labA s n] h = some (.ret (.agg (recsF (castF l k) v a b s n).cells), h) := by
    intro acc e
    rw [fields117 ih v ov b.labels fb.lab acc b.args (by rw [e]; exact fromL_fit fa _) (fun t ht => fb.arg ht) s n hs hd h, e, recs_eq]
  intro q
  induction q with
  | zero => intro i acc h1 h2; omega
  | succ q ihq =>
    intro i acc h1 h2 h3 h4 h5
    rw [Lp60_4_succ]
    simp only [Val.re, Ty.refold]
    rw [Ty.c3 b, Ty.c4 b, lenA31, bind_some', List.length_map, bin_int, lssI, bind_some', boolB, bind_some']
    by_cases hi : i < b.labels.length
    · rw [List.drop_eq_getElem_cons hi, fromL] at h4
      have hb : b.labels.length ≤ 1048576 := fb.lab
      rw [ltT hi, condT, indexA_map _ _ _ _ hi, bind_some', part_str, bind_some', field116 a fa.ok, onOut_ret, tupS, bind_some', t20, bind_some', bind_some', t21, bind_some', aggS, bind_some', Ty.cells_len, b5, condT, notB, bind_some', boolB, bind_some']
      cases hf : fieldT a b.labels[i] with
      | none =>
        rw [hf] at h4
        rw [Option.isSome_none, Bool.not_false, condT, hfin acc (by rw [← h4, List.append_nil])]
        exact refEnd _ _
      | some t =>
        rw [hf] at h4
        rw [Option.isSome_some, Bool.not_true, condF, Option.getD_some, Ty.refold, apT' acc t (by omega), condT, apTE', bin_int, addI, bind_some', incI (by omega)]
        have := ihq (i + 1) (acc ++ [t]) hi (by omega) (by simp [h3]) (by rw [List.append_assoc]; exact h4) (fun u hu => by
          rcases List.mem_append.1 hu with e | e
          · exact h5 u e
          · rw [List.mem_singleton.1 e]; exact fa.arg (fieldT_mem hf))
        rw [Ty.c3 b, Ty.c4 b] at this
        exact this
    · rw [ltF hi, condF, hfin acc (by rw [← h4, List.drop_of_length_le (by omega), fromL, List.append_nil])]
      exact refEnd _ _
theorem r3 (x : Bool) : Sq60_3 (evw E) (b.labels.length + 1) h0 h (.sl 12 (l.map Seal.cells)) (v.cells.getD 0 .dead) (v.cells.getD 1 .dead) (v.cells.getD 2 .dead) (v.cells.getD 3 .dead) (v.cells.getD 4 .dead) (v.cells.getD 5 .dead) (v.cells.getD 6 .dead) (v.cells.getD 7 .dead) (v.cells.getD 8 .dead) (v.cells.getD 9 .dead) (a.cells.getD 0 .dead) (a.cells.getD 1 .dead) (a.cells.getD 2 .dead) (a.cells.getD 3 .dead) (a.cells.getD 4 .dead) (b.cells.getD 0 .dead) (b.cells.getD 1 .dead) (b.cells.getD 2 .dead) (b.cells.getD 3 .dead) (b.cells.getD 4 .dead) (.lit (.string s)) (.lit (.int .i64 n)) (.lit (.int .i64 0)) (.lit (.int .i64 0)) (.lit (.int .i64 0)) (.lit (.bool false)) (.lit (.string ByteArray.empty)) (.lit (.string ByteArray.empty)) (.lit (.int .i64 0)) [] [] [] (.lit (.string ByteArray.empty)) (.lit (.int .i64 0)) (.lit (.bool false)) (.lit (.bool x)) = some (.ret (.agg (bif x then recsF (castF l k) v a b s n else .bl s n).cells), h) := by
  rw [Sq60_3_eq, gateS, boolB, bind_some']
  cases x with
  | true =>
    rw [condT, cond_true]
    exact r4 ih v a b s n h0 h ov fa fb hs hd (b.labels.length + 1) 0 [] (Nat.zero_le _) (by omega) rfl (by rw [List.drop_zero, List.nil_append]) (fun _ h => by cases h)
  | false =>
    rw [condF, cond_false, blame111]; exact refEnd _ _
theorem r2 (x : Bool) : Sq60_2 (evw E) (b.labels.length + 1) h0 h (.sl 12 (l.map Seal.cells)) (v.cells.getD 0 .dead) (v.cells.getD 1 .dead) (v.cells.getD 2 .dead) (v.cells.getD 3 .dead) (v.cells.getD 4 .dead) (v.cells.getD 5 .dead) (v.cells.getD 6 .dead) (v.cells.getD 7 .dead) (v.cells.getD 8 .dead) (v.cells.getD 9 .dead) (a.cells.getD 0 .dead) (a.cells.getD 1 .dead) (a.cells.getD 2 .dead) (a.cells.getD 3 .dead) (a.cells.getD 4 .dead) (b.cells.getD 0 .dead) (b.cells.getD 1 .dead) (b.cells.getD 2 .dead) (b.cells.getD 3 .dead) (b.cells.getD 4 .dead) (.lit (.string s)) (.lit (.int .i64 n)) (.lit (.int .i64 0)) (.lit (.int .i64 0)) (.lit (.int .i64 0)) (.lit (.bool false)) (.lit (.string ByteArray.empty)) (.lit (.string ByteArray.empty)) (.lit (.int .i64 0)) [] [] [] (.lit (.string ByteArray.empty)) (.lit (.int .i64 0)) (.lit (.bool false)) (.lit (.bool x)) = some (.ret (.agg (bif x then wrapV v a b s n else bif eqd a.k 8 && eqd b.k 8 then recsF (castF l k) v a b s n else .bl s n).cells), h) := by
  have h3 := r3 ih v a b s n h0 h ov fa fb hs hd
  rw [Sq60_2_eq, gateS, boolB, bind_some']
  simp only [Val.re, Ty.refold, wrap115 v a b fa.ok s n h, refEnd, aggS, bind_some', condT, Got.cells_len, b13, Got.re]
  cases x with
  | true => rfl
  | false =>
    rw [condF, cond_false]
    have e1 : binAV E .eql 3 (a.cells.getD 0 .dead) (.lit (.int .i64 8)) = some (.lit (.bool (eqd a.k 8))) := by rw [Ty.c0, bin_int, eqlE]
    have e2 : binAV E .eql 3 (b.cells.getD 0 .dead) (.lit (.int .i64 8)) = some (.lit (.bool (eqd b.k 8))) := by rw [Ty.c0, bin_int, eqlE]
    rw [e1, bind_some', boolB, bind_some', e2, bind_some']
    cases ha : eqd a.k 8 with
    | true => rw [condT, Bool.true_and]; exact h3 _
    | false => rw [condF, Bool.false_and]; exact h3 false
theorem r1 (hl : SealsFit l) (x : Bool) : Sq60_1 (evw E) (b.labels.length + 1) h0 h (.sl 12 (l.map Seal.cells)) (v.cells.getD 0 .dead) (v.cells.getD 1 .dead) (v.cells.getD 2 .dead) (v.cells.getD 3 .dead) (v.cells.getD 4 .dead) (v.cells.getD 5 .dead) (v.cells.getD 6 .dead) (v.cells.getD 7 .dead) (v.cells.getD 8 .dead) (v.cells.getD 9 .dead) (a.cells.getD 0 .dead) (a.cells.getD 1 .dead) (a.cells.getD 2 .dead) (a.cells.getD 3 .dead) (a.cells.getD 4 .dead) (b.cells.getD 0 .dead) (b.cells.getD 1 .dead) (b.cells.getD 2 .dead) (b.cells.getD 3 .dead) (b.cells.getD 4 .dead) (.lit (.string s)) (.lit (.int .i64 n)) (.lit (.int .i64 0)) (.lit (.int .i64 0)) (.lit (.int .i64 0)) (.lit (.bool false)) (.lit (.string ByteArray.empty)) (.lit (.string ByteArray.empty)) (.lit (.int .i64 0)) [] [] [] (.lit (.string ByteArray.empty)) (.lit (.int .i64 0)) (.lit (.bool false)) (.lit (.bool x)) = some (.ret (.agg (bif x then .ok v else bif a.loose then outF (castF l k) l v b s n else bif b.loose then inF (castF l k) v a s n else bif eqd a.k 7 && eqd b.k 7 then wrapV v a b s n else bif eqd a.k 8 && eqd b.k 8 then recsF (castF l k) v a b s n else .bl s n).cells), h) := by
  have h3 := r2 ih v a b s n h0 h ov fa fb hs hd
  rw [Sq60_1_eq, gateS, boolB, bind_some']
  simp only [Val.re, Ty.refold, good109, loose110, onOut_ret, boolB, bind_some', out113 ih hl v b s n h ov fb hs hd, in114 ih v a s n h ov fa hs hd, refEnd, aggS, bind_some', condT, Got.cells_len, b13, Got.re]
  cases x with
  | true => rfl
  | false =>
    rw [condF, cond_false]
    cases a.loose with
    | true => rfl
    | false =>
    rw [condF, cond_false]
    cases b.loose with
    | true => rfl
    | false =>
    rw [condF, cond_false]
    have e1 : binAV E .eql 3 (a.cells.getD 0 .dead) (.lit (.int .i64 7)) = some (.lit (.bool (eqd a.k 7))) := by rw [Ty.c0, bin_int, eqlE]
    have e2 : binAV E .eql 3 (b.cells.getD 0 .dead) (.lit (.int .i64 7)) = some (.lit (.bool (eqd b.k 7))) := by rw [Ty.c0, bin_int, eqlE]
    rw [e1, bind_some', boolB, bind_some', e2, bind_some']
    cases ha : eqd a.k 7 with
    | true => rw [condT, Bool.true_and]; exact h3 _
    | false => rw [condF, Bool.false_and]; exact h3 false
omit fa in
theorem r0 (hl : SealsFit l) (x : Bool) : Sq60_0 (evw E) (b.labels.length + 1) h0 h (.sl 12 (l.map Seal.cells)) (v.cells.getD 0 .dead) (v.cells.getD 1 .dead) (v.cells.getD 2 .dead) (v.cells.getD 3 .dead) (v.cells.getD 4 .dead) (v.cells.getD 5 .dead) (v.cells.getD 6 .dead) (v.cells.getD 7 .dead) (v.cells.getD 8 .dead) (v.cells.getD 9 .dead) (b.cells.getD 0 .dead) (b.cells.getD 1 .dead) (b.cells.getD 2 .dead) (b.cells.getD 3 .dead) (b.cells.getD 4 .dead) (.lit (.string s)) (.lit (.int .i64 n)) (.lit (.int .i64 0)) (.lit (.int .i64 0)) (.lit (.int .i64 0)) (.lit (.bool false)) (.lit (.string ByteArray.empty)) (.lit (.string ByteArray.empty)) (.lit (.int .i64 0)) [] [] [] (.lit (.string ByteArray.empty)) (.lit (.int .i64 0)) (.lit (.bool false)) (.lit (.bool x)) = some (.ret (.agg (bif x then .bl s n else revealF (castF l k) l v b s n).cells), h) := by
  rw [Sq60_0_eq, gateS, boolB, bind_some']
  simp only [Val.re, Ty.refold, blame111, reveal112 ih hl v b s n h ov fb hs hd, refEnd, aggS, bind_some', condT, Got.cells_len, b13, Got.re]
  cases x <;> rfl
theorem do60_step (hl : SealsFit l) : evw E 60 [.sl 12 (l.map Seal.cells), .agg v.cells, .agg a.cells, .agg b.cells, labA s n] h = some (.ret (.agg (castF l (k + 1) v a b s n).cells), h) := by
  refine evw_run primsC (b.labels.length + 1) rfl rfl rfl ?_
  rw [nf60]
  have k1 := r1 ih v a b s n h h ov fa fb hs hd hl
  have k0 := r0 ih v b s n h h ov fb hs hd hl
  simp only [aggS, bind_some', Val.cells_len, Ty.cells_len, b10, b5, b2, condT, g0, g1]
  simp only [Val.re, Ty.refold, same23 a b _ fa.ok, onOut_ret, boolB, bind_some', loose110, good109, refEnd, aggS, bind_some', condT, Got.cells_len, b13, Got.re, k0, k1]
  show _ = some (Out.ret (.agg (stepF (castF l k) l v a b s n).cells), h)
  unfold stepF
  cases eqd a b with
  | true => rfl
  | false =>
    rw [condF, cond_false]
    have e1 : binAV E .eql 3 (a.cells.getD 0 .dead) (.lit (.int .i64 9)) = some (.lit (.bool (eqd a.k 9))) := by rw [Ty.c0, bin_int, eqlE]
    rw [e1, bind_some', boolB, bind_some']
    cases ha : eqd a.k 9 with
    | true =>
      rw [condT, Bool.true_and]
      cases b.loose with
      | true => rfl
      | false =>
        have e2 : binAV E .neq 3 (v.cells.getD 0 .dead) (.lit (.int .i64 8)) = some (.lit (.bool (!(eqd v.k 8)))) := by rw [Val.c0, bin_int, neqE]
        have e3 : binAV E .neq 3 (v.cells.getD 1 .dead) (a.cells.getD 1 .dead) = some (.lit (.bool (!(eqd v.n a.n)))) := by rw [Val.c1, Ty.c1, bin_int, neqE]
        rw [condF, e2, bind_some', boolB, bind_some', e3, bind_some', k0, cond_false, cond_true]
        cases eqd v.k 8 <;> cases eqd v.n a.n <;> rfl
    | false =>
      rw [condF, Bool.false_and, cond_false, cond_false]
      cases ha : a.loose with
      | true =>
        rw [condT, Bool.true_and]
        rw [ha] at k1
        first | rfl | exact k1 _
      | false =>
        rw [condF, Bool.false_and]
        rw [ha] at k1
        first | rfl | exact k1 _
end
theorem do60 {l : List Seal} (hl : SealsFit l) : ∀ k, RefOk l k
  | 0 => fun v a b s n h ov fa fb hs hd => by omega
  | k + 1 => fun v a b s n h ov fa fb hs hd => do60_step (do60 hl k) v a b s n h ov fa fb hs (by omega) hl
end Go.Sh.T

/- The law CastTells. -/
namespace Go.Sh.T
open Go Go.Sh
set_option linter.unusedSimpArgs false
set_option linter.unusedVariables false
set_option maxRecDepth 100000

theorem lenA9' (s : ByteArray) : lenA E 9 (.lit (.string s)) = some (s.size : Int) := (Eq.refl _).trans (by kernel_rfl)
theorem label_eq (a b : ByteArray) (n m : Int) : binAV E .eql 25 (.agg [.lit (.string a), .lit (.int .i64 n)]) (.agg [.lit (.string b), .lit (.int .i64 m)]) = some (.lit (.bool (eqd a b && eqd n m))) := by
  have h : binAV E .eql 25 (.agg [.lit (.string a), .lit (.int .i64 n)]) (.agg [.lit (.string b), .lit (.int .i64 m)]) = some (.lit (.bool ((a == b) && ((n == m) && true)))) := (Eq.refl _).trans (by kernel_rfl)
  rw [h, Bool.and_true]
  have : (a == b) = eqd a b := by
    rw [Bool.eq_iff_iff, eqd_iff]
    cases a with
    | mk x =>
      cases b with
      | mk y =>
        show (x == y) = true ↔ _
        rw [beq_iff_eq]
        exact ⟨fun e => by rw [e], fun e => by cases e; rfl⟩
  rw [this, int_eqd]
noncomputable def smallB (l : List Seal) (v : Val) (ts : List Ty) : Bool := ts.all (fun t => !decide (t.much > 150)) && (decide (few15 l ≤ 60) && decide (v.much ≤ 250))
theorem small56 (l : List Seal) (hl : l.length ≤ maxLen) (ol : ∀ s ∈ l, s.Ok) (v : Val) (ov : v.Ok) (ts : List Ty) (hts : ts.length ≤ maxLen) (ot : ∀ t ∈ ts, t.Ok) (h : Heap) :
    evw E 56 [.sl 12 (l.map Seal.cells), .agg v.cells, .sl 5 (ts.map Ty.cells)] h = some (.ret (.lit (.bool (smallB l v ts))), h) := by
  have hts : ts.length ≤ 9223372036854775807 := hts
  have loop : ∀ (q i : Nat), i ≤ ts.length → ts.length < q + i → Lp56_0 (evw E) (ts.length + 1) h q h (.sl 12 (l.map Seal.cells)) (.sl 5 (ts.map Ty.cells)) (v.cells.getD 0 .dead) (v.cells.getD 1 .dead) (v.cells.getD 2 .dead) (v.cells.getD 3 .dead) (v.cells.getD 4 .dead) (v.cells.getD 5 .dead) (v.cells.getD 6 .dead) (v.cells.getD 7 .dead) (v.cells.getD 8 .dead) (v.cells.getD 9 .dead) (.lit (.int .i64 (i : Int))) = some (.ret (.lit (.bool ((ts.drop i).all (fun t => !decide (t.much > 150)) && (decide (few15 l ≤ 60) && decide (v.much ≤ 250))))), h) := by
    intro q
    induction q with
    | zero => intro i h1 h2; omega
    | succ q ih =>
      intro i h1 h2
      rw [Lp56_0_succ, lenA29, bind_some', List.length_map, bin_int, lssI, bind_some', boolB, bind_some']
      by_cases hi : i < ts.length
      · rw [ltT hi, condT, indexA_map _ _ _ _ hi, bind_some', partA_full (Ty.cells_len _), bind_some', much_spec _ _ (ot _ (List.getElem_mem hi)), onOut_ret, bin_int, gtrI, bind_some', boolB, bind_some', List.drop_eq_getElem_cons hi, List.all_cons]
        cases decide ((ts[i]).much > 150) with
        | true => rfl
        | false =>
          rw [condF, bin_int, addI, bind_some', incI (by omega)]
          exact ih (i + 1) hi (by omega)
      · rw [ltF hi, condF, List.drop_of_length_le (by omega), few15_spec l hl ol, onOut_ret, bin_int, leqI, bind_some', boolB, bind_some', Val.re, much48 v h ov]
        cases decide (few15 l ≤ 60) with
        | false => rfl
        | true => rw [condT, onOut_ret, bin_int, leqI, bind_some']; rfl
  refine evw_run primsC (ts.length + 1) rfl rfl rfl ?_
  rw [nf56, aggS, bind_some', Val.cells_len, b10, condT]
  have := loop (ts.length + 1) 0 (Nat.zero_le _) (by omega)
  rw [List.drop_zero] at this
  exact this
def sealsRight (l : List Seal) : Bool := l.all fun s => s.rep.right && s.bound.right
theorem typed57 (l : List Seal) (hl : l.length ≤ maxLen) (ol : ∀ s ∈ l, s.Ok) (h : Heap) : evw E 57 [.sl 12 (l.map Seal.cells)] h = some (.ret (.lit (.bool (sealsRight l))), h) := by
  have hl : l.length ≤ 9223372036854775807 := hl
  have loop : ∀ (q i : Nat), i ≤ l.length → l.length < q + i → Lp57_0 (evw E) (l.length + 1) h q h (.sl 12 (l.map Seal.cells)) (.lit (.int .i64 (i : Int))) = some (.ret (.lit (.bool ((l.drop i).all fun s => s.rep.right && s.bound.right))), h) := by
    intro q
    induction q with
    | zero => intro i h1 h2; omega
    | succ q ih =>
      intro i h1 h2
      rw [Lp57_0_succ, lenA22, bind_some', List.length_map, bin_int, lssI, bind_some', boolB, bind_some']
      by_cases hi : i < l.length
      · have hs := ol _ (List.getElem_mem hi)
        rw [ltT hi, condT, indexA_map _ _ _ _ hi, bind_some', Seal.len, show Nat.ble 0 12 = true from rfl, condT, Seal.p0, bind_some', right_spec _ _ hs.rep, onOut_ret, notB, bind_some', boolB, bind_some', bind_some', Seal.len, show Nat.ble 5 12 = true from rfl, condT, Seal.p5, bind_some', right_spec _ _ hs.bound, onOut_ret, notB, bind_some', boolB, bind_some', List.drop_eq_getElem_cons hi, List.all_cons]
        cases (l[i]).rep.right with
        | false => rfl
        | true =>
        cases (l[i]).bound.right with
        | false => rfl
        | true =>
          rw [Bool.not_true, condF, condF, bin_int, addI, bind_some', incI (by omega)]
          exact ih (i + 1) hi (by omega)
      · rw [ltF hi, condF, List.drop_of_length_le (by omega)]; rfl
  refine evw_run primsC (l.length + 1) rfl rfl rfl ?_
  rw [nf57]
  have := loop (l.length + 1) 0 (Nat.zero_le _) (by omega)
  rw [List.drop_zero] at this
  exact this

theorem sealsRight_fit {l : List Seal} (ol : ∀ s ∈ l, s.Ok) (vl : ∀ s ∈ l, s.rep.vol ≤ 1048576 ∧ s.bound.vol ≤ 1048576) (h : sealsRight l = true) : SealsFit l := by
  intro s hs
  have := List.all_eq_true.1 h s hs
  rw [Bool.and_eq_true] at this
  exact ⟨ol s hs, ⟨(ol s hs).rep, this.1, (vl s hs).1⟩, ⟨(ol s hs).bound, this.2, (vl s hs).2⟩⟩
theorem t30 (x y z : AV) : ([x, y, z] : List AV)[0]? = some x := (Eq.refl _).trans rfl
theorem t31 (x y z : AV) : ([x, y, z] : List AV)[1]? = some y := (Eq.refl _).trans rfl
theorem t32 (x y z : AV) : ([x, y, z] : List AV)[2]? = some z := (Eq.refl _).trans rfl
theorem Got.v10b (s : ByteArray) (n : Int) : [(Got.bl s n).cells.getD 0 .dead, (Got.bl s n).cells.getD 1 .dead, (Got.bl s n).cells.getD 2 .dead, (Got.bl s n).cells.getD 3 .dead, (Got.bl s n).cells.getD 4 .dead, (Got.bl s n).cells.getD 5 .dead, (Got.bl s n).cells.getD 6 .dead, (Got.bl s n).cells.getD 7 .dead, (Got.bl s n).cells.getD 8 .dead, (Got.bl s n).cells.getD 9 .dead] = zeroV.cells := by
  rw [Got.cells, zeroV_cells]; rfl
theorem Got.a10o (v : Val) : [(Got.ok v).cells.getD 10 .dead, (Got.ok v).cells.getD 11 .dead] = [.lit (.string ByteArray.empty), .lit (.int .i64 0)] := by rw [Got.cells, Val.cells_eq]; rfl
theorem Got.a10b (s : ByteArray) (n : Int) : [(Got.bl s n).cells.getD 10 .dead, (Got.bl s n).cells.getD 11 .dead] = [.lit (.string s), .lit (.int .i64 n)] := by rw [Got.cells, zeroV_cells]; rfl
theorem zeroV_ok : zeroV.Ok := .mk (Nat.zero_le _) (Nat.zero_le _) (Nat.zero_le _) (fun _ h => by cases h) (Nat.zero_le _) (fun _ h => by cases h) (Nat.zero_le _) (fun _ h => by cases h)

theorem castTells_row (l : List Seal) (hl : l.length ≤ maxLen) (ol : ∀ s ∈ l, s.Ok) (v : Val) (ov : v.Ok) (a : Ty) (oa : a.Ok) (b : Ty) (ob : b.Ok) (s : ByteArray) (n : Int) (os : s.size ≤ maxLen) (on : (Lit.int .i64 n).wf = true)
    (vl : ∀ s ∈ l, s.rep.vol ≤ 1048576 ∧ s.bound.vol ≤ 1048576) (va : a.vol ≤ 1048576) (vb : b.vol ≤ 1048576) (_ : List Nat) : evw E 10 [.sl 12 (l.map Seal.cells), .agg v.cells, .agg a.cells, .agg b.cells, labA s n] [] = some (.ret (.lit (.bool true)), []) := by
  refine evw_run primsC 0 rfl rfl rfl ?_
  rw [nf10]
  have hsm := small56 l hl ol v ov [a, b] (show 2 ≤ maxLen by decide) (fun t ht => by
    rcases List.mem_cons.1 ht with e | e
    · rw [e]; exact oa
    · rw [List.mem_singleton.1 e]; exact ob) []
  rw [show [a, b].map Ty.cells = [a.cells, b.cells] from rfl] at hsm
  simp only [aggS, bind_some', Val.cells_len, Ty.cells_len, b10, b5, b2, condT, g0, g1, Val.re, Ty.refold, hsm, onOut_ret, notB, boolB, awake58, lenA9', bin_int, gtrI, typed57 l hl ol, right_spec a _ oa, right_spec b _ ob]
  cases smallB l v [a, b] with
  | false => rfl
  | true =>
  rw [Bool.not_true, condF]
  cases decide ((s.size : Int) > 100) with
  | true => rfl
  | false =>
  rw [condF]
  cases ht : sealsRight l with
  | false => rfl
  | true =>
  rw [Bool.not_true, condF]
  cases ha : a.right with
  | false => rfl
  | true =>
  rw [Bool.not_true, condF]
  cases hb : b.right with
  | false => rfl
  | true =>
  rw [Bool.not_true, condF]
  have hfl := sealsRight_fit ol vl ht
  have fa : Fit a := ⟨oa, ha, va⟩
  have fb : Fit b := ⟨ob, hb, vb⟩
  have h60 := do60 hfl (v.dep + 1) v a b s n [] ov fa fb os (Nat.lt_succ_self _)
  have hwo : ∀ w, wrapV v a b s n = .ok w → w.Ok := fun w e => (wrapV_good (m := v.dep) oa ob os ⟨ov, Nat.le_refl _⟩ e).ok
  have hg : ∀ w, castV l v a b s n = .ok w → w.Ok := fun w e => (castF_good l (fun s hs => (hfl s hs).1) (v.dep + 1) v a b s n v.dep w oa ob os ⟨ov, Nat.le_refl _⟩ e).ok
  rw [do59 l hfl v a b s n [] ov fa fb os]
  simp only [h60, wrap61 v a b oa, wrap62 v a b oa, onOut_ret, show castF l (v.dep + 1) v a b s n = castV l v a b s n from rfl, unk63, unk64, same23 unkT unkT _ unkT_ok, eqd_self, boolB, bind_some', condT, awake58]
  have hunk : ∀ w x : Val, w.Ok → evw E 51 [.agg w.cells, .agg w.cells] [] = some (.ret (.lit (.bool true)), []) := fun w _ ow => by rw [same51 w w [] ow, eqd_self]
  rcases wrapV_label (v := v) (a := a) (b := b) (s := s) (n := n) with e | ⟨w, e⟩
  · have e2 : (wrapV v a b s n).tup = .tup [.agg zeroV.cells, .lit (.bool false)] := by rw [e]; rfl
    cases hc : castV l v a b s n with
    | ok z =>
      simp only [e2, Got.tup3, tupS, bind_some', t20, t21, t30, t31, t32, aggS, Val.cells_len, b10, b2, condT, g0, g1, Got.cells_len, b13]
      simp only [Val.re, Got.v10, Got.a10o, Got.g12o, eqB, eqd_self, bind_some', boolB, condT, label_eq, Bool.and_self, hunk z z (hg z hc), hunk zeroV zeroV zeroV_ok, onOut_ret, awake58]
    | bl p q =>
      simp only [e2, Got.tup3, tupS, bind_some', t20, t21, t30, t31, t32, aggS, Val.cells_len, b10, b2, condT, g0, g1, Got.cells_len, b13]
      simp only [Val.re, Got.v10b, Got.a10b, Got.g12b, eqB, eqd_self, bind_some', boolB, condT, label_eq, Bool.and_self, hunk zeroV zeroV zeroV_ok, onOut_ret, awake58]
  · have e2 : (wrapV v a b s n).tup = .tup [.agg w.cells, .lit (.bool true)] := by rw [e]; rfl
    cases hc : castV l v a b s n with
    | ok z =>
      simp only [e2, Got.tup3, tupS, bind_some', t20, t21, t30, t31, t32, aggS, Val.cells_len, b10, b2, condT, g0, g1, Got.cells_len, b13]
      simp only [Val.re, Got.v10, Got.a10o, Got.g12o, eqB, eqd_self, bind_some', boolB, condT, label_eq, Bool.and_self, hunk z z (hg z hc), hunk w w (hwo w e), onOut_ret, awake58]
    | bl p q =>
      simp only [e2, Got.tup3, tupS, bind_some', t20, t21, t30, t31, t32, aggS, Val.cells_len, b10, b2, condT, g0, g1, Got.cells_len, b13]
      simp only [Val.re, Got.v10b, Got.a10b, Got.g12b, eqB, eqd_self, bind_some', boolB, condT, label_eq, Bool.and_self, hunk zeroV zeroV zeroV_ok, hunk w w (hwo w e), onOut_ret, awake58]

theorem ty_vol {t : Ty} {m : Nat} (h : volC t.cells ≤ m) (hm : m ≤ 1048576) : t.vol ≤ 1048576 := Nat.le_trans h hm
theorem volC_app (l m : List AV) : volC (l ++ m) = volC l + volC m := volC_append l m
theorem seals_vol2 {l : List Seal} {m : Nat} (h : volC [.sl 12 (l.map Seal.cells)] ≤ m) (hm : m ≤ 1048576) : ∀ s ∈ l, s.rep.vol ≤ 1048576 ∧ s.bound.vol ≤ 1048576 := by
  intro s hs
  have key : ∀ l : List Seal, s ∈ l → volC s.cells ≤ volE (l.map Seal.cells) := by
    intro l
    induction l with
    | nil => intro h; cases h
    | cons y r ih =>
      intro h
      rw [List.map_cons, volE]
      rcases List.mem_cons.1 h with e | e
      · rw [e]; exact Nat.le_add_right _ _
      · have := ih e; omega
  have h1 := key l hs
  simp only [volC, Sh.vol] at h
  rw [Seal.cells, volC_append, volC_append] at h1
  unfold Ty.vol
  omega
end Go.Sh.T
