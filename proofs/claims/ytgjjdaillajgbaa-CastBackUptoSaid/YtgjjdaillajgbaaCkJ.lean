/- CkJ: part of the proof: a shadow of the machine that is proved sound, and what the functions of this seat compute. Conditions: none. -/
import Derived.Test.YtgjjdaillajgbaaCkI
/- The law CastBack. -/
namespace Go.Sh.T
open Go Go.Sh
set_option linter.unusedSimpArgs false
set_option linter.unusedVariables false
set_option maxRecDepth 100000

theorem list_choose {α : Type} (P : Nat → α → Prop) : ∀ n : Nat, (∀ i, i < n → ∃ x, P i x) → ∃ ks : List α, ks.length = n ∧ ∀ (i : Nat) (x : α), ks[i]? = some x → P i x
  | 0, _ => ⟨[], rfl, fun i x h => by simp at h⟩
  | n + 1, h => by
    obtain ⟨ks, h1, h2⟩ := list_choose P n fun i hi => h i (by omega)
    obtain ⟨x, hx⟩ := h n (by omega)
    refine ⟨ks ++ [x], by simp [h1], fun i y hi => ?_⟩
    by_cases e : i < ks.length
    · rw [List.getElem?_append_left e] at hi; exact h2 i y hi
    · rw [List.getElem?_append_right (by omega)] at hi
      have hl := (List.getElem?_eq_some_iff.1 hi).1
      simp only [List.length_cons, List.length_nil] at hl
      have e0 : i - ks.length = 0 := by omega
      rw [e0] at hi
      have hi : x = y := by simpa using hi
      rw [← hi, show i = n from by omega]; exact hx
theorem fldL_all {f : Nat → Val → Got} {v : Val} {s : ByteArray} {n : Int} {all : List ByteArray} : ∀ (r : List ByteArray) (ks : List Val) (i : Nat) (acc : List Val), ks.length = r.length → (∀ (j : Nat) (k : Val), ks[j]? = some k → ∃ y, fieldV v (r.getD j ByteArray.empty) = some y ∧ f (i + j) y = .ok k) → fldL f v s n all i r acc = .ok (recV all (acc ++ ks))
  | [], [], i, acc, _, _ => by unfold fldL; rw [List.append_nil]
  | x :: r, k :: ks, i, acc, hl, h => by
    obtain ⟨y, h1, h2⟩ := h 0 k rfl
    have h1 : fieldV v x = some y := h1
    have h2 : f i y = .ok k := h2
    unfold fldL
    rw [h1]
    show (f i y).bind _ = _
    rw [h2, Got.bind_ok]
    have := fldL_all (all := all) (s := s) (n := n) r ks (i + 1) (acc ++ [k]) (by simpa using hl) fun j k' hj => by
      obtain ⟨y', e1, e2⟩ := h (j + 1) k' (by simpa using hj)
      exact ⟨y', e1, by rw [show i + 1 + j = i + (j + 1) from by omega]; exact e2⟩
    rw [this, List.append_assoc]; rfl
theorem fieldsF_all {f : Nat → Val → Got} {v : Val} {ls : List ByteArray} {s : ByteArray} {n : Int} {ks : List Val} (hk : v.k = 4) (hl : ks.length = ls.length) (h : ∀ (j : Nat) (k : Val), ks[j]? = some k → ∃ y, fieldV v (ls.getD j ByteArray.empty) = some y ∧ f j y = .ok k) : fieldsF f v ls s n = .ok (recV ls ks) := by
  unfold fieldsF
  rw [hk, eqd_self, cond_true]
  have := fldL_all (all := ls) (s := s) (n := n) ls ks 0 [] hl fun j k hj => by rw [Nat.zero_add]; exact h j k hj
  rw [List.nil_append] at this; exact this
/-- The field of a record that stands at a label's own place. -/
theorem fieldV_at {v : Val} {ls : List ByteArray} {i : Nat} {y : Val} (hr : risingR ls none = true) (hk : v.k = 4) (hl : v.labels = ls) (hi : i < ls.length) (hy : v.kids[i]? = some y) : fieldV v (ls.getD i ByteArray.empty) = some y := by
  unfold fieldV
  rw [hk, eqd_self, cond_true, hl, ix_rising hr (show ls[i]? = some (ls.getD i ByteArray.empty) from by rw [List.getD_eq_getElem?_getD, List.getElem?_eq_getElem hi]; rfl)]
  exact hy
theorem recV_self {v : Val} (h : v.right = true) (hk : v.k = 4) : recV v.labels v.kids = v := by
  obtain ⟨h1, h2, h3, h4, h5, h6, h7, _⟩ := right_recV h hk
  cases v
  simp only at hk h1 h2 h3 h4 h5 h6 h7
  subst hk h1 h2 h3 h4 h5 h6 h7
  rfl
theorem has_arg {t u : Ty} {k : Int} (h : t.has k = false) (hu : u ∈ t.args) : u.has k = false := by
  rw [Ty.has_eq, Bool.or_eq_false_iff] at h
  have key : ∀ l : List Ty, Ty.hasL k l = false → u ∈ l → u.has k = false := by
    intro l
    induction l with
    | nil => intro _ h; cases h
    | cons x r ih =>
      intro h hm
      rw [Ty.hasL, Bool.or_eq_false_iff] at h
      rcases List.mem_cons.1 hm with e | e
      · rw [e]; exact h.1
      · exact ih h.2 e
  exact key _ h.2 hu
theorem has_self {t : Ty} {k : Int} (h : t.has k = false) : t.k ≠ k := by
  rw [Ty.has_eq, Bool.or_eq_false_iff] at h
  intro e; rw [e] at h; simp at h
section
variable {l : List Seal}
theorem loose_eq_ne {a b : Ty} (ha : a.loose = false) (hb : b.loose = true) : eqd a b = false := eqd_f fun e => by rw [e, hb] at ha; cases ha
theorem castF_dyn (k : Nat) (v : Val) (a : Ty) (s : ByteArray) (n : Int) : castF l (k + 1) v a dynT s n = (bif eqd a.k 9 || a.loose then .ok v else inF (castF l k) v a s n) := by
  show stepF _ l v a dynT s n = _
  unfold stepF
  cases h : eqd a dynT with
  | true => rw [eqd_iff.1 h, dynT_loose, Bool.or_true]; rfl
  | false =>
    rw [dynT_loose]
    cases eqd a.k 9 <;> cases a.loose <;> rfl
theorem castF_top (k : Nat) (v : Val) (a : Ty) (s : ByteArray) (n : Int) : castF l (k + 1) v a tyTop s n = castF l (k + 1) v a dynT s n := by
  rw [castF_dyn]
  have ht : tyTop.loose = true := by unfold Ty.loose; rw [show eqd tyTop.k 4 = true from eqd_self _, Bool.or_true]
  show stepF _ l v a tyTop s n = _
  unfold stepF
  cases h : eqd a tyTop with
  | true => rw [eqd_iff.1 h, ht, Bool.or_true]; rfl
  | false =>
    rw [ht]
    cases eqd a.k 9 <;> cases a.loose <;> rfl
theorem castF_out (k : Nat) (v : Val) (a : Ty) (s : ByteArray) (n : Int) (ha : a.loose = false) : castF l (k + 1) v dynT a s n = outF (castF l k) l v a s n := by
  show stepF _ l v dynT a s n = _
  unfold stepF
  rw [show eqd dynT a = false from eqd_f (fun e => by rw [← e, dynT_loose] at ha; cases ha), show eqd dynT.k 9 = false from eqd_f (show (5 : Int) ≠ 9 by decide), dynT_loose, ha]
  rfl
theorem castF_back (k : Nat) : ∀ (v : Val) (a : Ty), isV l v a = true → v.right = true → a.right = true → a.has 7 = false → v.dep < k → ∃ w, (∀ s n, castF l k v a dynT s n = .ok w) ∧ ∀ k' s n, w.dep < k' → castF l k' w dynT a s n = .ok v := by
  induction k with
  | zero => intro v a _ _ _ _ h; omega
  | succ k ih =>
  intro v a hv rv ra hf hd
  have up : ∀ {k' : Nat} {w : Val}, w.dep < k' → ∃ q, k' = q + 1 := fun {k' w} h => ⟨k' - 1, by omega⟩
  cases hl : a.loose with
  | true =>
    refine ⟨v, fun s n => by rw [castF_dyn, hl, Bool.or_true, cond_true], fun k' s n h => ?_⟩
    obtain ⟨q, rfl⟩ := up h
    show stepF _ l v dynT a s n = _
    unfold stepF
    rw [dynT_loose, hl, show eqd dynT.k 9 = false from eqd_f (show (5 : Int) ≠ 9 by decide)]
    cases eqd dynT a <;> rfl
  | false =>
  by_cases h9 : a.k = 9
  · refine ⟨v, fun s n => by rw [castF_dyn, h9, eqd_self, Bool.true_or, cond_true], fun k' s n h => ?_⟩
    obtain ⟨q, rfl⟩ := up h
    rw [isV_seal h9] at hv
    simp only [Bool.and_eq_true] at hv
    rw [castF_out _ _ _ _ _ hl]
    unfold outF
    rw [hv.1, h9, eqd_iff.1 hv.2.1, eqd_self, eqd_self]; rfl
  have hin : ∀ s n, castF l (k + 1) v a dynT s n = inF (castF l k) v a s n := fun s n => by rw [castF_dyn, hl, eqdN h9]; rfl
  have base : ∀ j : Int, (j = 1 ∨ j = 2 ∨ j = 3) → a.k = j → v.k = j → ∃ w, (∀ s n, castF l (k + 1) v a dynT s n = .ok w) ∧ ∀ k' s n, w.dep < k' → castF l k' w dynT a s n = .ok v := by
    intro j hj ha hv
    refine ⟨v, fun s n => ?_, fun k' s n h => ?_⟩
    · rw [hin]; unfold inF
      rcases hj with e | e | e <;> rw [ha, hv, e] <;> simp only [eqd_self, eqdN (show (2 : Int) ≠ 1 by decide), eqdN (show (3 : Int) ≠ 1 by decide), eqdN (show (3 : Int) ≠ 2 by decide), cond_true, cond_false]
    · obtain ⟨q, rfl⟩ := up h
      rw [castF_out _ _ _ _ _ hl]
      unfold outF
      rcases hj with e | e | e <;> rw [ha, hv, e] <;> simp only [eqd_self, eqdN (show (1 : Int) ≠ 8 by decide), eqdN (show (2 : Int) ≠ 8 by decide), eqdN (show (3 : Int) ≠ 8 by decide), eqdN (show (2 : Int) ≠ 1 by decide), eqdN (show (3 : Int) ≠ 1 by decide), eqdN (show (3 : Int) ≠ 2 by decide), cond_true, cond_false]
  by_cases h1 : a.k = 1
  · rw [isV_eq, h1, eqd_self, cond_true] at hv; exact base 1 (.inl rfl) h1 (eqd_iff.1 hv)
  by_cases h2 : a.k = 2
  · rw [isV_eq, h2, eqdN (show (2 : Int) ≠ 1 by decide), eqd_self, cond_false, cond_true] at hv; exact base 2 (.inr (.inl rfl)) h2 (eqd_iff.1 hv)
  by_cases h3 : a.k = 3
  · rw [isV_eq, h3, eqdN (show (3 : Int) ≠ 1 by decide), eqdN (show (3 : Int) ≠ 2 by decide), eqd_self, cond_false, cond_false, cond_true] at hv; exact base 3 (.inr (.inr rfl)) h3 (eqd_iff.1 hv)
  have h7 := has_self hf
  by_cases h8 : a.k = 8
  · have hr := right_rec ra h8
    have hv4 := isV_k4 h8 hv
    have hv' := hv
    rw [isV_rec h8] at hv'
    simp only [Bool.and_eq_true] at hv'
    have hlab : v.labels = a.labels := eqd_iff.1 hv'.2.1
    have hlen : v.kids.length = a.args.length := by have := eqd_iff.1 hv'.2.2.1; omega
    have hkid : ∀ i, i < a.args.length → ∃ w, ∃ y t, v.kids[i]? = some y ∧ a.args[i]? = some t ∧ (∀ s n, castF l k y t dynT s n = .ok w) ∧ ∀ k' s n, w.dep < k' → castF l k' w dynT t s n = .ok y := by
      intro i hi
      have hi' : i < v.kids.length := by omega
      have hm := List.getElem_mem hi'
      have hy := List.getElem?_eq_getElem hi'
      have ht := List.getElem?_eq_getElem hi
      have hdk := dep_kid (show eqd v.k 6 = false from by rw [hv4]; exact eqdN (by decide)) hm
      obtain ⟨w, e1, e2⟩ := ih v.kids[i] a.args[i] (isV2_get hv'.2.2.2 hy ht) (right_kid rv hm) (right_arg ra (List.getElem_mem hi)) (has_arg hf (List.getElem_mem hi)) (by omega)
      exact ⟨w, _, _, hy, ht, e1, e2⟩
    obtain ⟨ks, kl, kp⟩ := list_choose _ a.args.length hkid
    refine ⟨recV a.labels ks, fun s n => ?_, fun k' s n h => ?_⟩
    · rw [hin]; unfold inF
      rw [eqdN h1, eqdN h2, eqdN h3, eqdN h7, h8, eqd_self]
      simp only [cond_true, cond_false]
      refine fieldsF_all hv4 (by omega) fun j w hj => ?_
      obtain ⟨y, t, e1, e2, e3, _⟩ := kp j w hj
      have hj' := (List.getElem?_eq_some_iff.1 hj).1
      refine ⟨y, fieldV_at hr.1 hv4 hlab (by omega) e1, ?_⟩
      show (match a.args[j]? with | some t => _ | none => _) = _
      rw [e2]; exact e3 s n
    · obtain ⟨q, rfl⟩ := up h
      rw [castF_out _ _ _ _ _ hl]
      unfold outF
      rw [show (recV a.labels ks).k = 4 from rfl, h8, eqdN (show (4 : Int) ≠ 8 by decide), eqdN (show (8 : Int) ≠ 1 by decide), eqdN (show (8 : Int) ≠ 2 by decide), eqdN (show (8 : Int) ≠ 3 by decide), eqdN (show (8 : Int) ≠ 7 by decide), eqd_self]
      simp only [cond_true, cond_false]
      refine (fieldsF_all (ks := v.kids) rfl (by omega) fun j y hj => ?_).trans (by rw [← hlab, recV_self rv hv4])
      have hj' := (List.getElem?_eq_some_iff.1 hj).1
      have hjk : j < ks.length := by omega
      have hw := List.getElem?_eq_getElem hjk
      obtain ⟨y', t, e1, e2, _, e4⟩ := kp j _ hw
      rw [e1] at hj
      rw [← Option.some.inj hj]
      refine ⟨ks[j], fieldV_at hr.1 rfl rfl (by omega) hw, ?_⟩
      show (match a.args[j]? with | some t => _ | none => _) = _
      rw [e2]
      rw [recV_dep] at h
      have := depL_mem ks _ (List.getElem_mem hjk)
      exact e4 q s n (by omega)
  · rw [isV_var h1 h2 h3 h7 h8 h9 hl] at hv; cases hv
end
theorem tyTop_ok : tyTop.Ok := .mk (by decide) (by decide) (by decide) (by decide) (by intro _ h; cases h) (by decide) (by intro _ h; cases h)
theorem tyTop_fit : Fit tyTop := ⟨tyTop_ok, by rw [Ty.right_eq]; decide +kernel, by unfold Ty.vol; rw [show tyTop.cells = [.lit (.int .i64 4), .lit (.int .i64 0), .lit (.string ByteArray.empty), .sl 1 [], .sl 5 []] from by rw [Ty.cells_eq]; rfl]; decide⟩
theorem top69 (h : Heap) : evw E 69 [] h = some (.ret (.agg tyTop.cells), h) := evk 5 (by kernel_rfl)
theorem castBack_row (l : List Seal) (hl : l.length ≤ maxLen) (ol : ∀ s ∈ l, s.Ok) (v : Val) (ov : v.Ok) (a : Ty) (oa : a.Ok) (s : ByteArray) (n : Int) (os : s.size ≤ maxLen) (on : (Lit.int .i64 n).wf = true) (s' : ByteArray) (n' : Int) (os' : s'.size ≤ maxLen) (on' : (Lit.int .i64 n').wf = true)
    (vl : ∀ s ∈ l, s.rep.vol ≤ 1048576 ∧ s.bound.vol ≤ 1048576) (va : a.vol ≤ 1048576) (_ : List Nat) : evw E 13 [.sl 12 (l.map Seal.cells), .agg v.cells, .agg a.cells, labA s n, labA s' n'] [] = some (.ret (.lit (.bool true)), []) := by
  refine evw_run primsC 0 rfl rfl rfl ?_
  rw [nf13]
  have hsm := small56 l hl ol v ov [a] (show 1 ≤ maxLen by decide) (fun t ht => by rw [List.mem_singleton.1 ht]; exact oa) []
  rw [show [a].map Ty.cells = [a.cells] from rfl] at hsm
  simp only [labA, aggS, bind_some', Val.cells_len, Ty.cells_len, b10, b5, b2, condT, g0, g1, Val.re, Ty.refold, hsm, onOut_ret, notB, boolB, awake58, right28_spec l hl ol, right65 v _ ov, is66 l ol v a _ ov oa, right_spec a _ oa, has_spec a 7 _ oa]
  cases smallB l v [a] with
  | false => rfl
  | true =>
  cases ht : right28 l with
  | false => rfl
  | true =>
  cases ha : a.right with
  | false => rfl
  | true =>
  cases hr : v.right with
  | false => rfl
  | true =>
  cases hf : a.has 7 with
  | true => rfl
  | false =>
  cases hi : isV l v a with
  | false => rfl
  | true =>
  simp only [Bool.not_true, condF]
  have hfl := right28_fit ol vl ht
  have fa : Fit a := ⟨oa, ha, va⟩
  obtain ⟨w, hw1, hw2⟩ := castF_back (l := l) (v.dep + 1) v a hi hr ha hf (Nat.lt_succ_self _)
  have ow : w.Ok := (castF_good l (fun s hs => (hfl s hs).1) (v.dep + 1) v a dynT s n v.dep w oa dynT_ok os ⟨ov, Nat.le_refl _⟩ (hw1 s n)).ok
  have d1 := do59 l hfl v a dynT s n [] ov fa dynT_fit os
  have d2 := do59 l hfl w dynT a s' n' [] ow dynT_fit fa os'
  have d3 := do59 l hfl v a tyTop s n [] ov fa tyTop_fit os
  unfold castV at d1 d2 d3
  rw [castF_top, hw1] at d3
  rw [hw1] at d1
  rw [hw2 _ s' n' (Nat.lt_succ_self _)] at d2
  unfold labA at d1 d2 d3
  simp only [dyn68, top69, d1, d2, d3, onOut_ret, Got.tup3, labA, tupS, bind_some', t30, t31, t32, aggS, Val.cells_len, b10, b2, condT, g0, g1, Val.re, boolB, notB, Bool.not_true, condF, same51 v v [] ov, same51 w w [] ow, eqd_self, awake58]
end Go.Sh.T
