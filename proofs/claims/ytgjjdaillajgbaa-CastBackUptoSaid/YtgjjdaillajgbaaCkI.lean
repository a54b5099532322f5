/- CkI: part of the proof: a shadow of the machine that is proved sound, and what the functions of this seat compute. Conditions: none. -/
import Derived.Test.YtgjjdaillajgbaaCkH
/- Where one type lies below the other the cast is sure. -/
namespace Go.Sh.T
open Go Go.Sh
set_option linter.unusedSimpArgs false
set_option linter.unusedVariables false
set_option maxRecDepth 100000

/-- What the reference's order tells, without bounds. -/
inductive Bel : Ty → Ty → Prop
  | top {a b : Ty} (h : b.k = 4) : Bel a b
  | var {a b : Ty} (h : a.k = 6) : Bel a b
  | fn {a b : Ty} (ha : a.k = 7) (hb : b.k = 7) : Bel a b
  | rcd {a b : Ty} (ha : a.k = 8) (hb : b.k = 8) (f g : Nat → Ty) (h1 : ∀ i, i < b.labels.length → fieldT a (b.labels.getD i ByteArray.empty) = some (f i) ∧ b.args[i]? = some (g i)) (h2 : ∀ i, i < b.labels.length → Bel (f i) (g i)) : Bel a b
  | same {a b : Ty} (e : a = b) : Bel a b

theorem fldL_sure {f : Nat → Val → Got} {v : Val} {s : ByteArray} {n : Int} {all : List ByteArray} : ∀ (r : List ByteArray) (i : Nat) (acc : List Val), (∀ j, j < r.length → ∃ y w, fieldV v (r.getD j ByteArray.empty) = some y ∧ f (i + j) y = .ok w) → ∃ w, fldL f v s n all i r acc = .ok w
  | [], i, acc, h => ⟨_, rfl⟩
  | x :: r, i, acc, h => by
    obtain ⟨y, w, h1, h2⟩ := h 0 (by simp)
    have h1 : fieldV v x = some y := h1
    have h2 : f i y = .ok w := h2
    unfold fldL
    rw [h1]
    show ∃ z, (f i y).bind _ = _
    rw [h2]
    exact fldL_sure r (i + 1) (acc ++ [w]) fun j hj => by
      obtain ⟨y', w', e1, e2⟩ := h (j + 1) (by simpa using hj)
      exact ⟨y', w', e1, by rw [show i + 1 + j = i + (j + 1) from by omega]; exact e2⟩
theorem fieldsF_sure {f : Nat → Val → Got} {v : Val} {ls : List ByteArray} {s : ByteArray} {n : Int} (hk : v.k = 4) (h : ∀ j, j < ls.length → ∃ y w, fieldV v (ls.getD j ByteArray.empty) = some y ∧ f j y = .ok w) : ∃ w, fieldsF f v ls s n = .ok w := by
  unfold fieldsF
  rw [hk, eqd_self, cond_true]
  exact fldL_sure ls 0 [] fun j hj => by rw [Nat.zero_add]; exact h j hj
theorem wrapV_sure {v : Val} {a b : Ty} {s : ByteArray} {n : Int} (h : v.fn = true) : ∃ w, wrapV v a b s n = .ok w := by
  unfold wrapV
  rw [h, Bool.not_true, cond_false]
  cases eqd a b <;> exact ⟨_, rfl⟩
section
variable {l : List Seal}
theorem isV_has {v : Val} {a t : Ty} {x : ByteArray} (ha : a.k = 8) (hi : isV l v a = true) (ht : fieldT a x = some t) : ∃ y, fieldV v x = some y ∧ isV l y t = true := by
  have hi' := hi
  rw [isV_rec ha] at hi'
  simp only [Bool.and_eq_true] at hi'
  obtain ⟨k4, k5, k6, k7⟩ := hi'
  have ht' := ht
  unfold fieldT at ht'
  rw [ha, eqd_self, cond_true, Option.bind_eq_some_iff] at ht'
  obtain ⟨j, f1, f2⟩ := ht'
  have hj : j < v.kids.length := by have := (List.getElem?_eq_some_iff.1 f2).1; have := eqd_iff.1 k6; omega
  have hy : fieldV v x = some v.kids[j] := by
    unfold fieldV
    rw [k4, cond_true, eqd_iff.1 k5, f1]
    exact List.getElem?_eq_getElem hj
  exact ⟨_, hy, isV_field ha hi hy ht⟩
theorem isV_k4 {v : Val} {a : Ty} (ha : a.k = 8) (hi : isV l v a = true) : v.k = 4 := by
  rw [isV_rec ha, Bool.and_eq_true] at hi
  exact eqd_iff.1 hi.1
theorem castF_same (k : Nat) (v : Val) (a : Ty) (s : ByteArray) (n : Int) : castF l (k + 1) v a a s n = .ok v := by
  show stepF _ l v a a s n = _
  unfold stepF
  rw [eqd_self, cond_true]

/-- Below, or into ?: no blame. -/
theorem castF_sure : ∀ (k : Nat) (v : Val) (a b : Ty) (s : ByteArray) (n : Int), isV l v a = true → a.right = true → b.right = true → (b.loose = true ∨ Bel a b) → v.dep < k → ∃ w, castF l k v a b s n = .ok w
  | 0, v, a, b, s, n, _, _, _, _, h => by omega
  | k + 1, v, a, b, s, n, hv, ra, rb, hab, hd => by
    have ih := castF_sure k
    by_cases e : a = b
    · rw [e]; exact ⟨_, castF_same k v b s n⟩
    have hB : b.loose = false → (a.k = 7 ∧ b.k = 7) ∨ (a.k = 8 ∧ b.k = 8 ∧ ∀ i, i < b.labels.length → ∃ t u, fieldT a (b.labels.getD i ByteArray.empty) = some t ∧ b.args[i]? = some u ∧ Bel t u) := by
      intro hl
      rcases hab with h | h
      · rw [h] at hl; cases hl
      · have hl' := loose_f hl
        cases h with
        | top h => exact absurd h hl'.2
        | var h => rw [isV_var (by rw [h]; decide) (by rw [h]; decide) (by rw [h]; decide) (by rw [h]; decide) (by rw [h]; decide) (by rw [h]; decide) (by unfold Ty.loose; rw [h, eqdN (by decide), eqdN (by decide)]; rfl)] at hv; cases hv
        | fn h1 h2 => exact .inl ⟨h1, h2⟩
        | rcd h1 h2 f g h3 h4 => exact .inr ⟨h1, h2, fun i hi => ⟨f i, g i, (h3 i hi).1, (h3 i hi).2, h4 i hi⟩⟩
        | same h => exact absurd h e
    have nl : ∀ x : Ty, x.loose = true → x.k ≠ 7 ∧ x.k ≠ 8 := fun x h => by rcases loose_k h with e | e <;> rw [e] <;> exact ⟨by decide, by decide⟩
    have lf : ∀ x : Ty, x.k ≠ 5 → x.k ≠ 4 → x.loose = false := fun x h1 h2 => by unfold Ty.loose; rw [eqdN h1, eqdN h2]; rfl
    have kid : ∀ {x : ByteArray} {y : Val}, fieldV v x = some y → y.dep < k := fun {x y} h => by
      have hm := fieldV_mem h
      have := dep_kid (show eqd v.k 6 = false from by rw [hm.2]; exact eqdN (by decide)) hm.1
      omega
    show ∃ w, stepF (castF l k) l v a b s n = .ok w
    refine stepF_cases (P := fun g => ∃ w, g = .ok w) (castF l k) l v a b s n ?_ ?_ ?_ ?_ ?_ ?_ ?_ ?_ ?_ ?_ ?_ ?_ ?_ ?_ ?_
    · intro _; exact ⟨_, rfl⟩
    · intro _ _; exact ⟨_, rfl⟩
    · intro h9 hl _ _
      rcases hB hl with h | h <;> (have := h.1; omega)
    · intro h
      exfalso
      cases h with
      | sealN ha hb _ => rcases hB hb with h | h <;> (have := h.1; omega)
      | outBase ha hb _ _ =>
        have hl := lf b (by omega) (by omega)
        have := nl a ha
        rcases hB hl with h | h <;> (have := h.1; omega)
      | out ha hb _ _ =>
        have := nl a ha
        rcases hB hb with h | h <;> (have := h.1; omega)
      | inBase hb ha h =>
        rw [isV_eq] at hv
        rcases ha with e | e | e <;> rw [e] at hv h
        · rw [eqd_self, cond_true] at hv; exact h (eqd_iff.1 hv)
        · rw [eqdN (show (2 : Int) ≠ 1 by decide), eqd_self, cond_false, cond_true] at hv; exact h (eqd_iff.1 hv)
        · rw [eqdN (show (3 : Int) ≠ 1 by decide), eqdN (show (3 : Int) ≠ 2 by decide), eqd_self, cond_false, cond_false, cond_true] at hv; exact h (eqd_iff.1 hv)
      | inn hb ha h9 h =>
        rw [isV_var h.1 h.2.1 h.2.2.1 h.2.2.2.1 h.2.2.2.2 h9 ha] at hv; cases hv
      | far _ ha hb _ h7 h8 => rcases hB hb with h | h; exact h7 h; exact h8 ⟨h.1, h.2.1⟩
    · intro _ _; exact ⟨_, rfl⟩
    · intro _ _ _ _; exact ⟨_, rfl⟩
    · intro ha hb _
      have := nl a ha
      rcases hB hb with h | h <;> (have := h.1; omega)
    · intro _ _; exact ⟨_, rfl⟩
    · intro ha _ h7
      have := nl a ha
      rcases hB (lf b (by omega) (by omega)) with h | h <;> (have := h.1; omega)
    · intro ha _ h8
      have := nl a ha
      rcases hB (lf b (by omega) (by omega)) with h | h <;> (have := h.1; omega)
    · intro _ _; exact ⟨_, rfl⟩
    · intro _ h7; rw [isV_fun h7] at hv; exact wrapV_sure hv
    · intro hb h8
      have hr := right_rec ra h8
      refine fieldsF_sure (isV_k4 h8 hv) fun i hi => ?_
      have hi' : i < a.args.length := by omega
      have hg := List.getElem?_eq_getElem hi'
      obtain ⟨y, h1, h2⟩ := isV_has h8 hv (field_at hr.1 h8 hi hg)
      obtain ⟨w, h3⟩ := ih y _ dynT s n h2 (right_arg ra (List.getElem_mem hi')) dynT_fit.right (.inl dynT_loose) (kid h1)
      refine ⟨y, w, h1, ?_⟩
      show (match a.args[i]? with | some t => _ | none => _) = _
      rw [hg]; exact h3
    · intro _ h7 _; rw [isV_fun h7] at hv; exact wrapV_sure hv
    · intro _ h8 hb8
      rcases hB (lf b (by omega) (by omega)) with h | h
      · have := h.1; omega
      refine fieldsF_sure (isV_k4 h8 hv) fun i hi => ?_
      obtain ⟨t, u, e1, e2, e3⟩ := h.2.2 i hi
      obtain ⟨y, h1, h2⟩ := isV_has h8 hv e1
      obtain ⟨w, h3⟩ := ih y t u s n h2 (right_arg ra (fieldT_mem e1).1) (right_arg rb (List.mem_of_getElem? e2)) (.inr e3) (kid h1)
      refine ⟨y, w, h1, ?_⟩
      show (match fieldT a (b.labels.getD i ByteArray.empty) with | none => _ | some t => match b.args[i]? with | some u => _ | none => _) = _
      rw [e1, e2]; exact h3
end
end Go.Sh.T

/- The law CastSure. -/
namespace Go.Sh.T
open Go Go.Sh
set_option linter.unusedSimpArgs false
set_option linter.unusedVariables false
set_option maxRecDepth 100000

theorem right_fn {t : Ty} (h : t.right = true) (hk : t.k = 7) : t.args.length = 2 := by
  rw [Ty.right_eq, Bool.and_eq_true] at h
  have h2 := h.2
  unfold nodeR at h2
  rw [hk] at h2
  simp only [Bool.and_eq_true] at h2
  have h3 := h2.2
  simp only [show (decide ((7 : Int) ≥ 1) && decide ((7 : Int) ≤ 5)) = false from rfl, show ((7 : Int) == 6) = false from rfl, show ((7 : Int) == 9) = false from rfl, show ((7 : Int) == 7) = true from rfl, cond_false, cond_true, beq_iff_eq] at h3
  omega
theorem bounds124 (h : Heap) : evw E 124 [.sl 6 []] h = some (.ret (.lit (.bool true)), h) := by
  refine evw_run primsC 1 rfl rfl rfl ?_
  rw [nf124, Lp124_0_succ, show lenA E 23 (.sl 6 []) = some 0 from (Eq.refl _).trans (by kernel_rfl), bind_some']; rfl
theorem up175 (x : AV) (h : Heap) : evw E 175 [.sl 6 [], x] h = some (.ret (.tup [.agg zeroT.cells, .lit (.bool false)]), h) := by
  rw [zeroT_cells]
  exact evk 6 (by kernel_rfl)
theorem up159 (t : Ty) (ht : t.k = 6) (h : Heap) : evw E 159 [.sl 6 [], .agg t.cells] h = some (.ret (.tup [.agg t.cells, .lit (.bool false)]), h) := by
  refine evw_run primsC 0 rfl rfl rfl ?_
  rw [nf159]
  simp only [aggS, bind_some', Ty.cells_len, b5, condT, condF, Ty.refold, eT, eqlE, boolB, ht, eqd_self, up175, onOut_ret, tupS, t20, t21]
theorem below125 : ∀ (m : Nat) (a b : Ty) (h : Heap), SizeOf.sizeOf a + SizeOf.sizeOf b < m → a.Ok → b.Ok → a.right = true → b.right = true → ∃ c : Bool, evw E 125 [.sl 6 [], .agg a.cells, .agg b.cells] h = some (.ret (.lit (.bool c)), h) ∧ (c = true → Bel a b)
  | 0, a, b, h, hm, _, _, _, _ => by omega
  | m + 1, a, b, h, hm, oa, ob, ra, rb => by
    have ih := below125 m
    have szA : ∀ {t u : Ty}, u ∈ t.args → SizeOf.sizeOf u < SizeOf.sizeOf t := fun {t u} hu => by
      have := List.sizeOf_lt_of_mem hu
      cases t; simp only [Ty.mk.sizeOf_spec] at *; omega
    have hlb : b.labels.length ≤ 9223372036854775807 := ob.lab
    have hsame : b.k ≠ 4 → a.k ≠ 6 → ¬ (a.k = 7 ∧ b.k = 7) → ¬ (a.k = 8 ∧ b.k = 8) → ∃ c : Bool, evw E 125 [.sl 6 [], .agg a.cells, .agg b.cells] h = some (.ret (.lit (.bool c)), h) ∧ (c = true → Bel a b) := by
      intro h4 h6 h7 h8
      refine ⟨eqd a b, evw_run primsC 0 rfl rfl rfl ?_, fun e => .same (eqd_iff.1 e)⟩
      rw [nf125]
      simp only [aggS, bind_some', Ty.cells_len, b5, condT, condF, Ty.refold, eT, eqlE, boolB, eqdN h4, eqdN h6, same23 a b h oa, onOut_ret]
      by_cases a7 : a.k = 7
      · have b7 : b.k ≠ 7 := fun e => h7 ⟨a7, e⟩
        rw [a7]
        simp only [eqd_self, eqdN b7, eqdN (show (7 : Int) ≠ 8 by decide), condT, condF]
      · by_cases a8 : a.k = 8
        · have b8 : b.k ≠ 8 := fun e => h8 ⟨a8, e⟩
          rw [a8]
          simp only [eqd_self, eqdN b8, eqdN (show (8 : Int) ≠ 7 by decide), condT, condF]
        · simp only [eqdN a7, eqdN a8, condF]
    by_cases h4 : b.k = 4
    · refine ⟨true, evw_run primsC 0 rfl rfl rfl ?_, fun _ => .top h4⟩
      rw [nf125]
      simp only [aggS, bind_some', Ty.cells_len, b5, condT, condF, Ty.refold, eT, eqlE, boolB, h4, eqd_self]
    by_cases h6 : a.k = 6
    · refine ⟨eqd a b, evw_run primsC 0 rfl rfl rfl ?_, fun _ => .var h6⟩
      rw [nf125]
      simp only [aggS, bind_some', Ty.cells_len, b5, condT, condF, Ty.refold, eT, eqlE, boolB, eqdN h4, h6, eqd_self, same23 a b h oa, onOut_ret, up159 a h6, tupS, t20, t21]
      cases eqd a b <;> rfl
    by_cases h7 : a.k = 7 ∧ b.k = 7
    · have la := right_fn ra h7.1
      have lb := right_fn rb h7.2
      have a0 : 0 < a.args.length := by omega
      have a1 : 1 < a.args.length := by omega
      have b0 : 0 < b.args.length := by omega
      have b1 : 1 < b.args.length := by omega
      have ma0 := List.getElem_mem a0
      have ma1 := List.getElem_mem a1
      have mb0 := List.getElem_mem b0
      have mb1 := List.getElem_mem b1
      have sa0 := szA ma0
      have sa1 := szA ma1
      have sb0 := szA mb0
      have sb1 := szA mb1
      obtain ⟨c, hc, _⟩ := ih (b.args[0]) (a.args[0]) h (by omega) (ob.arg mb0) (oa.arg ma0) (right_arg rb mb0) (right_arg ra ma0)
      obtain ⟨d, hd, _⟩ := ih (a.args[1]) (b.args[1]) h (by omega) (oa.arg ma1) (ob.arg mb1) (right_arg ra ma1) (right_arg rb mb1)
      refine ⟨c && d, evw_run primsC 0 rfl rfl rfl ?_, fun _ => .fn h7.1 h7.2⟩
      have ja0 : indexA 5 (a.cells.getD 4 .dead) (.lit (.int .i64 0)) = some (a.args[0]).cells := by rw [Ty.c4]; exact indexA_map a.args Ty.cells 5 0 a0
      have ja1 : indexA 5 (a.cells.getD 4 .dead) (.lit (.int .i64 1)) = some (a.args[1]).cells := by rw [Ty.c4]; exact indexA_map a.args Ty.cells 5 1 a1
      have jb0 : indexA 5 (b.cells.getD 4 .dead) (.lit (.int .i64 0)) = some (b.args[0]).cells := by rw [Ty.c4]; exact indexA_map b.args Ty.cells 5 0 b0
      have jb1 : indexA 5 (b.cells.getD 4 .dead) (.lit (.int .i64 1)) = some (b.args[1]).cells := by rw [Ty.c4]; exact indexA_map b.args Ty.cells 5 1 b1
      rw [nf125]
      simp only [aggS, bind_some', Ty.cells_len, b5, condT, condF, Ty.refold, eT, eqlE, boolB, h7.1, h7.2, eqd_self, eqdN (show (7 : Int) ≠ 4 by decide), eqdN (show (7 : Int) ≠ 6 by decide), ja0, ja1, jb0, jb1, partA_full (Ty.cells_len _), hc, hd, onOut_ret]
      cases c <;> rfl
    by_cases h8 : a.k = 8 ∧ b.k = 8
    · have hr := right_rec rb h8.2
      have loop : ∀ (q i : Nat), i ≤ b.labels.length → b.labels.length < q + i → ∃ c : Bool, Lp125_0 (evw E) (b.labels.length + 1) h q h (.sl 6 []) (a.cells.getD 0 .dead) (a.cells.getD 1 .dead) (a.cells.getD 2 .dead) (a.cells.getD 3 .dead) (a.cells.getD 4 .dead) (b.cells.getD 0 .dead) (b.cells.getD 1 .dead) (b.cells.getD 2 .dead) (b.cells.getD 3 .dead) (b.cells.getD 4 .dead) (.lit (.int .i64 (i : Int))) = some (.ret (.lit (.bool c)), h) ∧
          (c = true → ∀ j, i ≤ j → j < b.labels.length → ∃ t u, fieldT a (b.labels.getD j ByteArray.empty) = some t ∧ b.args[j]? = some u ∧ Bel t u) := by
        intro q
        induction q with
        | zero => intro i h1 h2; omega
        | succ q ihq =>
          intro i h1 h2
          rw [Lp125_0_succ]
          simp only [Ty.c3 b, lenA31, bind_some', List.length_map, bin_int, lssI, boolB]
          by_cases hi : i < b.labels.length
          · have hi2 : i < b.args.length := by omega
            have hg : b.labels.getD i ByteArray.empty = b.labels[i] := by rw [List.getD_eq_getElem?_getD, List.getElem?_eq_getElem hi]; rfl
            rw [ltT hi, condT, indexA_map _ _ _ _ hi, bind_some', part_str, bind_some', Ty.refold, field116 a oa, onOut_ret, tupS, bind_some', t20, bind_some', bind_some', t21, bind_some', aggS, bind_some', Ty.cells_len, b5, condT, notB, bind_some', boolB, bind_some']
            cases hf : fieldT a b.labels[i] with
            | none => exact ⟨false, rfl, fun e => by cases e⟩
            | some t =>
              have mt := (fieldT_mem hf).1
              have mb := List.getElem_mem hi2
              obtain ⟨c, hc, hcb⟩ := ih t b.args[i] h (by have := szA mt; have := szA mb; omega) (oa.arg mt) (ob.arg mb) (right_arg ra mt) (right_arg rb mb)
              rw [show (some t).isSome = true from rfl, Bool.not_true, condF, show (some t).getD zeroT = t from rfl, Ty.refold, Ty.c4 b, indexA_map _ _ _ _ hi2, bind_some', partA_full (Ty.cells_len _), bind_some', hc, onOut_ret, notB, bind_some', boolB, bind_some']
              cases c with
              | false => exact ⟨false, rfl, fun e => by cases e⟩
              | true =>
                rw [Bool.not_true, condF, addI, bind_some', incI (by omega)]
                obtain ⟨d, hd1, hd2⟩ := ihq (i + 1) hi (by omega)
                simp only [Ty.c3 b, Ty.c4 b] at hd1
                refine ⟨d, hd1, fun e j hj1 hj2 => ?_⟩
                by_cases hji : j = i
                · rw [hji, hg]; exact ⟨t, _, hf, List.getElem?_eq_getElem hi2, hcb rfl⟩
                · exact hd2 e j (by omega) hj2
          · rw [ltF hi, condF]
            exact ⟨true, rfl, fun _ j h3 h4 => by omega⟩
      obtain ⟨c, hc1, hc2⟩ := loop (b.labels.length + 1) 0 (Nat.zero_le _) (by omega)
      have hc1 : Lp125_0 (evw E) (b.labels.length + 1) h (b.labels.length + 1) h (.sl 6 []) (a.cells.getD 0 .dead) (a.cells.getD 1 .dead) (a.cells.getD 2 .dead) (a.cells.getD 3 .dead) (a.cells.getD 4 .dead) (b.cells.getD 0 .dead) (b.cells.getD 1 .dead) (b.cells.getD 2 .dead) (b.cells.getD 3 .dead) (b.cells.getD 4 .dead) (.lit (.int .i64 0)) = some (.ret (.lit (.bool c)), h) := hc1
      refine ⟨c, evw_run primsC (b.labels.length + 1) rfl rfl rfl ?_, fun e => ?_⟩
      · rw [nf125]
        simp only [aggS, bind_some', Ty.cells_len, b5, condT, condF, Ty.refold, eT, eqlE, boolB, h8.1, h8.2, eqd_self, eqdN (show (8 : Int) ≠ 4 by decide), eqdN (show (8 : Int) ≠ 6 by decide), eqdN (show (8 : Int) ≠ 7 by decide), hc1]
      · have hall := fun i (hi : i < b.labels.length) => hc2 e i (Nat.zero_le _) hi
        refine .rcd h8.1 h8.2 (fun i => (fieldT a (b.labels.getD i ByteArray.empty)).getD zeroT) (fun i => (b.args[i]?).getD zeroT) (fun i hi => ?_) (fun i hi => ?_)
        · obtain ⟨t, u, e1, e2, e3⟩ := hall i hi
          rw [e1, e2]; exact ⟨rfl, rfl⟩
        · obtain ⟨t, u, e1, e2, e3⟩ := hall i hi
          rw [e1, e2]; exact e3
    exact hsame h4 h6 h7 h8
theorem is67 (a b : Ty) (oa : a.Ok) (ob : b.Ok) (h : Heap) : ∃ c : Bool, evw E 67 [.sl 6 [], .agg a.cells, .agg b.cells] h = some (.ret (.lit (.bool c)), h) ∧ (c = true → a.right = true ∧ b.right = true ∧ Bel a b) := by
  cases ra : a.right with
  | false =>
    refine ⟨false, evw_run primsC 0 rfl rfl rfl ?_, fun e => by cases e⟩
    rw [nf67]
    simp only [aggS, bind_some', Ty.cells_len, b5, condT, condF, Ty.refold, bounds124, right_spec a _ oa, ra, onOut_ret, boolB]
  | true =>
  cases rb : b.right with
  | false =>
    refine ⟨false, evw_run primsC 0 rfl rfl rfl ?_, fun e => by cases e⟩
    rw [nf67]
    simp only [aggS, bind_some', Ty.cells_len, b5, condT, condF, Ty.refold, bounds124, right_spec a _ oa, right_spec b _ ob, ra, rb, onOut_ret, boolB]
  | true =>
    obtain ⟨c, h1, h2⟩ := below125 (SizeOf.sizeOf a + SizeOf.sizeOf b + 1) a b h (by omega) oa ob ra rb
    refine ⟨c, evw_run primsC 0 rfl rfl rfl ?_, fun e => ⟨rfl, rfl, h2 e⟩⟩
    rw [nf67]
    simp only [aggS, bind_some', Ty.cells_len, b5, condT, condF, Ty.refold, bounds124, right_spec a _ oa, right_spec b _ ob, ra, rb, onOut_ret, boolB, h1]
theorem castSure_row (l : List Seal) (hl : l.length ≤ maxLen) (ol : ∀ s ∈ l, s.Ok) (v : Val) (ov : v.Ok) (a : Ty) (oa : a.Ok) (b : Ty) (ob : b.Ok) (s : ByteArray) (n : Int) (os : s.size ≤ maxLen) (on : (Lit.int .i64 n).wf = true)
    (vl : ∀ s ∈ l, s.rep.vol ≤ 1048576 ∧ s.bound.vol ≤ 1048576) (va : a.vol ≤ 1048576) (vb : b.vol ≤ 1048576) (_ : List Nat) : evw E 12 [.sl 12 (l.map Seal.cells), .agg v.cells, .agg a.cells, .agg b.cells, labA s n] [] = some (.ret (.lit (.bool true)), []) := by
  refine evw_run primsC 0 rfl rfl rfl ?_
  rw [nf12]
  have hsm := small56 l hl ol v ov [a, b] (show 2 ≤ maxLen by decide) (fun t ht => by
    rcases List.mem_cons.1 ht with e | e
    · rw [e]; exact oa
    · rw [List.mem_singleton.1 e]; exact ob) []
  rw [show [a, b].map Ty.cells = [a.cells, b.cells] from rfl] at hsm
  obtain ⟨c, hc1, hc2⟩ := is67 a b oa ob []
  simp only [labA, aggS, bind_some', Val.cells_len, Ty.cells_len, b10, b5, b2, condT, g0, g1, Val.re, Ty.refold, hsm, onOut_ret, notB, boolB, awake58, right28_spec l hl ol, right65 v _ ov, is66 l ol v a _ ov oa, hc1]
  cases smallB l v [a, b] with
  | false => rfl
  | true =>
  cases ht : right28 l with
  | false => rfl
  | true =>
  cases v.right with
  | false => rfl
  | true =>
  cases hi : isV l v a with
  | false => rfl
  | true =>
  cases c with
  | false => rfl
  | true =>
  obtain ⟨ha, hb, hab⟩ := hc2 rfl
  simp only [Bool.not_true, condF]
  have hfl := right28_fit ol vl ht
  have fa : Fit a := ⟨oa, ha, va⟩
  have fb : Fit b := ⟨ob, hb, vb⟩
  have hd := do59 l hfl v a b s n [] ov fa fb os
  obtain ⟨w, hw⟩ := castF_sure (l := l) (v.dep + 1) v a b s n hi ha hb (.inr hab) (Nat.lt_succ_self _)
  unfold castV at hd
  rw [hw] at hd
  unfold labA at hd
  rw [hd]
  simp only [onOut_ret, Got.tup3, labA, tupS, bind_some', t30, t31, t32, aggS, Val.cells_len, b10, b2, condT, g0, g1, boolB, awake58]
end Go.Sh.T
