/- CkK: part of the proof: a shadow of the machine that is proved sound, and what the functions of this seat compute. Conditions: none. -/
import Derived.Test.YtgjjdaillajgbaaCkJ
/- Near, right, fuel. -/
namespace Go.Sh.T
open Go Go.Sh
set_option linter.unusedSimpArgs false
set_option linter.unusedVariables false
set_option maxRecDepth 100000

mutual
noncomputable def Val.strip : Val → Val
  | ⟨k, n, m, b, s, d, e, ts, ls, xs⟩ => bif eqd k 8 then Val.stripL ⟨k, n, m, b, s, d, e, ts, ls, xs⟩ xs else ⟨k, n, m, b, s, d, e, ts, ls, xs⟩
noncomputable def Val.stripL : Val → List Val → Val
  | d, [] => d
  | d, x :: r => x.strip
end
theorem strip_eq (v : Val) : v.strip = bif eqd v.k 8 then Val.stripL v v.kids else v := by cases v; rw [Val.strip]
theorem strip_self {v : Val} (h : v.k ≠ 8) : v.strip = v := by rw [strip_eq, eqdN h]; rfl
theorem strip_seal {v x : Val} (h : v.k = 8) (hx : v.kids = [x]) : v.strip = x.strip := by rw [strip_eq, h, eqd_self, cond_true, hx, Val.stripL]
theorem kid_size {v x : Val} (h : x ∈ v.kids) : SizeOf.sizeOf x < SizeOf.sizeOf v := by
  have := List.sizeOf_lt_of_mem h
  cases v; simp only [Val.mk.sizeOf_spec] at *; omega
theorem strip_size' : ∀ (m : Nat) (v : Val), SizeOf.sizeOf v < m → SizeOf.sizeOf v.strip ≤ SizeOf.sizeOf v
  | 0, v, h => by omega
  | m + 1, v, h => by
    rw [strip_eq]
    cases eqd v.k 8 with
    | false => exact Nat.le_refl _
    | true =>
      rw [cond_true]
      cases hk : v.kids with
      | nil => rw [Val.stripL]; exact Nat.le_refl _
      | cons x r =>
        rw [Val.stripL]
        have hm : x ∈ v.kids := by rw [hk]; exact List.mem_cons_self
        have h1 := kid_size hm
        have h2 := strip_size' m x (by omega)
        omega
theorem strip_size (v : Val) : SizeOf.sizeOf v.strip ≤ SizeOf.sizeOf v := strip_size' _ v (Nat.lt_succ_self _)
theorem fn_ne {v : Val} (h : v.fn = true) : v.k ≠ 4 ∧ v.k ≠ 8 := by rcases fn_k h with e | e | e <;> rw [e] <;> exact ⟨by decide, by decide⟩
theorem fn_strip {v : Val} (h : v.fn = true) : v.strip = v := strip_self (fn_ne h).2
theorem k4_strip {v : Val} (h : v.k = 4) : v.strip = v := strip_self (by rw [h]; decide)

/-- One value has all that another one has. -/
inductive Nr : Val → Val → Prop
  | fn {v w : Val} (hv : v.strip.fn = true) (hw : w.strip.fn = true) : Nr v w
  | leaf {v w : Val} (h : v.strip = w.strip) (hk : v.strip.k ≠ 4) : Nr v w
  | rcd {v w : Val} (hv : v.strip.k = 4) (hw : w.strip.k = 4) (f : ByteArray → Val) (h1 : ∀ x y, fieldV v.strip x = some y → fieldV w.strip x = some (f x)) (h2 : ∀ x y, fieldV v.strip x = some y → Nr y (f x)) : Nr v w
theorem Nr.of {v w : Val} (hv : v.strip.k = 4) (hw : w.strip.k = 4) (h : ∀ x y, fieldV v.strip x = some y → ∃ z, fieldV w.strip x = some z ∧ Nr y z) : Nr v w := by
  refine .rcd hv hw (fun x => (fieldV w.strip x).getD zeroV) (fun x y hy => ?_) (fun x y hy => ?_)
  · obtain ⟨z, e1, _⟩ := h x y hy; rw [e1]; rfl
  · obtain ⟨z, e1, e2⟩ := h x y hy; rw [e1]; exact e2
theorem Nr.get {v w y : Val} {x : ByteArray} (h : Nr v w) (hy : fieldV v.strip x = some y) : ∃ z, fieldV w.strip x = some z ∧ Nr y z := by
  have hk := (fieldV_mem hy).2
  cases h with
  | fn hv _ => exact absurd hk (fn_ne hv).1
  | leaf _ h => exact absurd hk h
  | rcd _ _ f h1 h2 => exact ⟨f x, h1 x y hy, h2 x y hy⟩
theorem Nr.congr {v v' w w' : Val} (e1 : v.strip = v'.strip) (e2 : w.strip = w'.strip) (h : Nr v w) : Nr v' w' := by
  cases h with
  | fn h1 h2 => exact .fn (by rw [← e1]; exact h1) (by rw [← e2]; exact h2)
  | leaf h1 h2 => exact .leaf (by rw [← e1, ← e2]; exact h1) (by rw [← e1]; exact h2)
  | rcd h1 h2 f h3 h4 => exact .rcd (by rw [← e1]; exact h1) (by rw [← e2]; exact h2) f (by rw [← e1, ← e2]; exact h3) (by rw [← e1]; exact h4)
theorem Nr.refl' : ∀ (m : Nat) (v : Val), SizeOf.sizeOf v < m → Nr v v
  | 0, v, h => by omega
  | m + 1, v, h => by
    by_cases hk : v.strip.k = 4
    · refine Nr.of hk hk fun x y hy => ⟨y, hy, ?_⟩
      have h1 := kid_size (fieldV_mem hy).1
      have h2 := strip_size v
      exact Nr.refl' m y (by omega)
    · exact .leaf rfl hk
theorem Nr.refl (v : Val) : Nr v v := Nr.refl' _ v (Nat.lt_succ_self _)
theorem Nr.trans {a b : Val} (h : Nr a b) : ∀ {c : Val}, Nr b c → Nr a c := by
  induction h with
  | @fn a b h1 h2 =>
    intro c h
    cases h with
    | fn _ h4 => exact .fn h1 h4
    | leaf e _ => exact .fn h1 (by rw [← e]; exact h2)
    | rcd hk _ _ _ _ => exact absurd hk (fn_ne h2).1
  | @leaf a b e hk =>
    intro c h
    exact h.congr e.symm rfl
  | @rcd a b h1 h2 f h3 h4 ih =>
    intro c h
    have hc : c.strip.k = 4 := by
      cases h with
      | fn h5 _ => exact absurd h2 (fn_ne h5).1
      | leaf _ h5 => exact absurd h2 h5
      | rcd _ h5 _ _ _ => exact h5
    refine Nr.of h1 hc fun x y hy => ?_
    obtain ⟨z, e1, e2⟩ := h.get (h3 x y hy)
    exact ⟨z, e1, ih x y hy e2⟩
theorem ix_get : ∀ {r : List ByteArray} {x : ByteArray} {i : Nat}, ix r x = some i → r[i]? = some x
  | [], x, i, h => by rw [ix] at h; cases h
  | y :: r, x, i, h => by
    rw [ix] at h
    cases he : strEq y x with
    | true =>
      rw [he, cond_true] at h
      rw [← Option.some.inj h, strEq_iff.1 he]; rfl
    | false =>
      rw [he, cond_false, Option.map_eq_some_iff] at h
      obtain ⟨j, h1, h2⟩ := h
      rw [← h2]
      simpa using ix_get h1
theorem fields_near {f : Nat → Val → Got} {v w : Val} {ls : List ByteArray} {s : ByteArray} {n : Int} (h : fieldsF f v ls s n = .ok w) (hf : ∀ i y z, f i y = .ok z → Nr z y) : Nr w v := by
  obtain ⟨hk, ks, h1, h2, h3⟩ := fieldsF_ok h
  have hs := k4_strip hk
  have hw : (recV ls ks).strip = recV ls ks := k4_strip rfl
  rw [h1]
  refine Nr.of (by rw [hw]; rfl) (by rw [hs]; exact hk) fun x y hy => ?_
  rw [hw] at hy
  rw [hs]
  unfold fieldV at hy
  rw [show eqd (recV ls ks).k 4 = true from eqd_self _, cond_true, Option.bind_eq_some_iff] at hy
  obtain ⟨i, e1, e2⟩ := hy
  have e1 : ix ls x = some i := e1
  have e2 : ks[i]? = some y := e2
  obtain ⟨x', y', g1, g2, g3⟩ := h3 i y e2
  rw [ix_get e1] at g1
  rw [Option.some.inj g1]
  exact ⟨y', g2, hf i y' y g3⟩
theorem wrap_near {v w : Val} {a b : Ty} {s : ByteArray} {n : Int} (h : wrapV v a b s n = .ok w) : Nr w v := by
  obtain ⟨h1, h2⟩ := wrapV_ok h
  rcases h2 with ⟨_, e⟩ | ⟨_, e⟩
  · rw [e]; exact Nr.refl v
  · have hf : w.fn = true := by rw [e]; unfold Val.fn; simp [eqd_self]
    exact .fn (by rw [fn_strip hf]; exact hf) (by rw [fn_strip h1]; exact h1)
section
variable {l : List Seal}
/-- What is cast has nothing that was not there. -/
theorem castF_near : ∀ (k : Nat) (v : Val) (a b : Ty) (s : ByteArray) (n : Int) (w : Val), castF l k v a b s n = .ok w → Nr w v
  | 0, v, a, b, s, n, w, h => by cases h
  | k + 1, v, a, b, s, n, w, h => by
    have ih := castF_near k
    have hrev : ∀ w, revealF (castF l k) l v b s n = .ok w → Nr w v := by
      intro w h
      unfold revealF at h
      cases hh : hid l v with
      | true => rw [hh] at h; cases h
      | false =>
        rw [hh, cond_false] at h
        obtain ⟨h1, h2, _, _⟩ := hid_f hh
        cases hd : castF l k (v.kids.headD zeroV) (findT l v.n).1.rep (findT l v.n).1.bound (findT l v.n).1.df (findT l v.n).1.nd with
        | bl x y => rw [hd] at h; cases h
        | ok z =>
          rw [hd, Got.bind_ok] at h
          exact ((ih _ _ _ _ _ _ h).trans (ih _ _ _ _ _ _ hd)).congr rfl (strip_seal h1 h2).symm
    have hme : ∀ w, Got.ok v = .ok w → Nr w v := fun w h => by rw [← Got.ok.inj h]; exact Nr.refl v
    revert w
    show ∀ w, stepF (castF l k) l v a b s n = .ok w → Nr w v
    refine stepF_cases (P := fun g => ∀ w, g = .ok w → Nr w v) (castF l k) l v a b s n ?_ ?_ ?_ ?_ ?_ ?_ ?_ ?_ ?_ ?_ ?_ ?_ ?_ ?_ ?_
    · exact fun _ => hme
    · exact fun _ _ => hme
    · exact fun _ _ _ _ => hrev
    · intro _ w h; cases h
    · exact fun _ _ => hme
    · exact fun _ _ _ _ => hme
    · exact fun _ _ _ => hrev
    · exact fun _ _ => hme
    · intro _ _ _ w h
      have hn := wrap_near h
      rcases knownV_cases v with e | ⟨h6, h2, _⟩
      · rw [e] at hn; exact hn
      · have hf : v.fn = true := by unfold Val.fn; rw [h6]; simp [eqd_self]
        have hg := (wrapV_ok h).1
        cases hn with
        | fn h3 _ => exact .fn h3 (by rw [fn_strip hf]; exact hf)
        | leaf e h3 => exact .fn (by rw [e, fn_strip hg]; exact hg) (by rw [fn_strip hf]; exact hf)
        | rcd _ h3 _ _ _ => rw [fn_strip hg] at h3; exact absurd h3 (fn_ne hg).1
    · intro _ _ _ w h
      refine fields_near h fun i y z hz => ?_
      cases ht : b.args[i]? with
      | none => simp only [ht] at hz; cases hz
      | some t => simp only [ht] at hz; exact ih _ _ _ _ _ _ hz
    · exact fun _ _ => hme
    · exact fun _ _ w h => wrap_near h
    · intro _ _ w h
      refine fields_near h fun i y z hz => ?_
      cases ht : a.args[i]? with
      | none => simp only [ht] at hz; cases hz
      | some t => simp only [ht] at hz; exact ih _ _ _ _ _ _ hz
    · exact fun _ _ _ w h => wrap_near h
    · intro _ _ _ w h
      refine fields_near h fun i y z hz => ?_
      cases ht : fieldT a (b.labels.getD i ByteArray.empty) with
      | none => simp only [ht] at hz; cases hz
      | some t =>
        cases hu : b.args[i]? with
        | none => simp only [ht, hu] at hz; cases hz
        | some u => simp only [ht, hu] at hz; exact ih _ _ _ _ _ _ hz
theorem fields_right {f : Nat → Val → Got} {v w : Val} {ls : List ByteArray} {s : ByteArray} {n : Int} (hv : v.right = true) (hr : risingR ls none = true) (h : fieldsF f v ls s n = .ok w) (hf : ∀ i y z, y.right = true → f i y = .ok z → z.right = true) : w.right = true := by
  obtain ⟨hk, ks, h1, h2, h3⟩ := fieldsF_ok h
  rw [h1]
  refine recV_right hr h2 fun x hx => ?_
  obtain ⟨i, hi⟩ := List.mem_iff_getElem?.1 hx
  obtain ⟨z, y, e1, e2, e3⟩ := h3 i x hi
  exact hf i y x (right_kid hv (fieldV_mem e2).1) e3
theorem wrap_right {v w : Val} {a b : Ty} {s : ByteArray} {n : Int} (hv : v.right = true) (ha : a.right = true) (ha7 : a.k = 7) (hb : b.right = true) (hb7 : b.k = 7) (h : wrapV v a b s n = .ok w) : w.right = true := by
  obtain ⟨h1, h2⟩ := wrapV_ok h
  rcases h2 with ⟨_, e⟩ | ⟨_, e⟩
  · rw [e]; exact hv
  · rw [e]; exact castNode_right hv h1 ha ha7 hb hb7
theorem unkT_right : unkT.right = true := by rw [Ty.right_eq]; decide +kernel
/-- What is cast is right. -/
theorem castF_right (hl : ∀ s ∈ l, s.rep.right = true ∧ s.bound.right = true) : ∀ (k : Nat) (v : Val) (a b : Ty) (s : ByteArray) (n : Int) (w : Val), v.right = true → a.right = true → b.right = true → castF l k v a b s n = .ok w → w.right = true
  | 0, v, a, b, s, n, w, _, _, _, h => by cases h
  | k + 1, v, a, b, s, n, w, rv, ra, rb, h => by
    have ih := castF_right hl k
    have hrev : ∀ w, revealF (castF l k) l v b s n = .ok w → w.right = true := by
      intro w h
      unfold revealF at h
      cases hh : hid l v with
      | true => rw [hh] at h; cases h
      | false =>
        rw [hh, cond_false] at h
        obtain ⟨h1, h2, h3, _⟩ := hid_f hh
        have hm := hl _ (findT_mem h3)
        cases hd : castF l k (v.kids.headD zeroV) (findT l v.n).1.rep (findT l v.n).1.bound (findT l v.n).1.df (findT l v.n).1.nd with
        | bl x y => rw [hd] at h; cases h
        | ok z =>
          rw [hd, Got.bind_ok] at h
          exact ih _ _ _ _ _ _ (ih _ _ _ _ _ _ (right_kid rv (by rw [h2]; exact List.mem_singleton.2 rfl)) hm.1 hm.2 hd) hm.2 rb h
    have hme : ∀ w, Got.ok v = .ok w → w.right = true := fun w h => by rw [← Got.ok.inj h]; exact rv
    revert w
    show ∀ w, stepF (castF l k) l v a b s n = .ok w → w.right = true
    refine stepF_cases (P := fun g => ∀ w, g = .ok w → w.right = true) (castF l k) l v a b s n ?_ ?_ ?_ ?_ ?_ ?_ ?_ ?_ ?_ ?_ ?_ ?_ ?_ ?_ ?_
    · exact fun _ => hme
    · exact fun _ _ => hme
    · exact fun _ _ _ _ => hrev
    · intro _ w h; cases h
    · exact fun _ _ => hme
    · exact fun _ _ _ _ => hme
    · exact fun _ _ _ => hrev
    · exact fun _ _ => hme
    · intro _ _ h7 w h
      rcases knownV_cases v with e | ⟨h6, h2, h3⟩
      · rw [e] at h; exact wrap_right rv unkT_right rfl rb h7 h
      · obtain ⟨⟨x, hx, _⟩, ht, _⟩ := right_cast rv h6
        have := ht (knownV v).2 (by rw [h3]; exact List.mem_cons_self)
        exact wrap_right (right_kid rv (by rw [h2]; exact List.mem_singleton.2 rfl)) this.1 this.2 rb h7 h
    · intro _ _ h8 w h
      refine fields_right rv (right_rec rb h8).1 h fun i y z ry hz => ?_
      cases ht : b.args[i]? with
      | none => simp only [ht] at hz; cases hz
      | some t => simp only [ht] at hz; exact ih _ _ _ _ _ _ ry dynT_fit.right (right_arg rb (List.mem_of_getElem? ht)) hz
    · exact fun _ _ => hme
    · exact fun _ h7 w h => wrap_right rv ra h7 unkT_right rfl h
    · intro _ h8 w h
      refine fields_right rv (right_rec ra h8).1 h fun i y z ry hz => ?_
      cases ht : a.args[i]? with
      | none => simp only [ht] at hz; cases hz
      | some t => simp only [ht] at hz; exact ih _ _ _ _ _ _ ry (right_arg ra (List.mem_of_getElem? ht)) dynT_fit.right hz
    · exact fun _ h7 h7' w h => wrap_right rv ra h7 rb h7' h
    · intro _ _ h8 w h
      refine fields_right rv (right_rec rb h8).1 h fun i y z ry hz => ?_
      cases ht : fieldT a (b.labels.getD i ByteArray.empty) with
      | none => simp only [ht] at hz; cases hz
      | some t =>
        cases hu : b.args[i]? with
        | none => simp only [ht, hu] at hz; cases hz
        | some u => simp only [ht, hu] at hz; exact ih _ _ _ _ _ _ ry (right_arg ra (fieldT_mem ht).1) (right_arg rb (List.mem_of_getElem? hu)) hz

/- levels enough are enough -/
theorem fldL_congr {f g : Nat → Val → Got} {v : Val} {s : ByteArray} {n : Int} {all : List ByteArray} (h : ∀ i x y, fieldV v x = some y → f i y = g i y) : ∀ (r : List ByteArray) (i : Nat) (acc : List Val), fldL f v s n all i r acc = fldL g v s n all i r acc
  | [], i, acc => rfl
  | x :: r, i, acc => by
    unfold fldL
    cases hy : fieldV v x with
    | none => rfl
    | some y =>
      show (f i y).bind _ = (g i y).bind _
      rw [h i x y hy]
      cases g i y with
      | bl _ _ => rfl
      | ok z => exact fldL_congr h r (i + 1) (acc ++ [z])
theorem fieldsF_congr {f g : Nat → Val → Got} {v : Val} {s : ByteArray} {n : Int} {ls : List ByteArray} (h : ∀ i x y, fieldV v x = some y → f i y = g i y) : fieldsF f v ls s n = fieldsF g v ls s n := by
  unfold fieldsF
  rw [fldL_congr h]
theorem castF_fuel (hl : ∀ s ∈ l, s.Ok) : ∀ (k k' : Nat) (v : Val) (a b : Ty) (s : ByteArray) (n : Int), v.Ok → a.Ok → b.Ok → s.size ≤ maxLen → v.dep < k → v.dep < k' → castF l k v a b s n = castF l k' v a b s n
  | 0, k', v, a, b, s, n, _, _, _, _, h, _ => by omega
  | k + 1, 0, v, a, b, s, n, _, _, _, _, _, h => by omega
  | k + 1, k' + 1, v, a, b, s, n, ov, oa, ob, os, h1, h2 => by
    have ih := castF_fuel hl k k'
    have kid : ∀ {x : ByteArray} {y : Val}, fieldV v x = some y → y.Ok ∧ y.dep < k ∧ y.dep < k' := fun {x y} h => by
      have hm := fieldV_mem h
      have := dep_kid (show eqd v.k 6 = false from by rw [hm.2]; exact eqdN (by decide)) hm.1
      exact ⟨ov.kid hm.1, by omega, by omega⟩
    have hrev : ∀ b, b.Ok → revealF (castF l k) l v b s n = revealF (castF l k') l v b s n := by
      intro b ob
      unfold revealF
      cases hh : hid l v with
      | true => rfl
      | false =>
        rw [cond_false, cond_false]
        obtain ⟨g1, g2, g3, _⟩ := hid_f hh
        have hso := hl _ (findT_mem g3)
        have hm : v.kids.headD zeroV ∈ v.kids := by rw [g2]; exact List.mem_singleton.2 rfl
        have hdk := dep_kid (show eqd v.k 6 = false from by rw [g1]; exact eqdN (by decide)) hm
        have ok := ov.kid hm
        rw [ih _ _ _ _ _ ok hso.rep hso.bound hso.df (by omega) (by omega)]
        cases hd : castF l k' (v.kids.headD zeroV) (findT l v.n).1.rep (findT l v.n).1.bound (findT l v.n).1.df (findT l v.n).1.nd with
        | bl x y => rfl
        | ok z =>
          have hz := castF_good l hl k' _ _ _ _ _ (v.kids.headD zeroV).dep z hso.rep hso.bound hso.df ⟨ok, Nat.le_refl _⟩ hd
          have := hz.dep
          exact ih _ _ _ _ _ hz.ok hso.bound ob os (by omega) (by omega)
    have f1 : outF (castF l k) l v b s n = outF (castF l k') l v b s n := by
      unfold outF
      rw [hrev b ob]
      refine congrArg (fun X => bif eqd v.k 8 then _ else bif eqd b.k 1 then _ else bif eqd b.k 2 then _ else bif eqd b.k 3 then _ else bif eqd b.k 7 then _ else bif eqd b.k 8 then X else _) (fieldsF_congr fun i x y hy => ?_)
      cases ht : b.args[i]? with
      | none => rfl
      | some t => exact ih _ _ _ _ _ (kid hy).1 dynT_ok (ob.arg (List.mem_of_getElem? ht)) os (kid hy).2.1 (kid hy).2.2
    have f2 : inF (castF l k) v a s n = inF (castF l k') v a s n := by
      unfold inF
      refine congrArg (fun X => bif eqd a.k 1 then _ else bif eqd a.k 2 then _ else bif eqd a.k 3 then _ else bif eqd a.k 7 then _ else bif eqd a.k 8 then X else _) (fieldsF_congr fun i x y hy => ?_)
      cases ht : a.args[i]? with
      | none => rfl
      | some t => exact ih _ _ _ _ _ (kid hy).1 (oa.arg (List.mem_of_getElem? ht)) dynT_ok os (kid hy).2.1 (kid hy).2.2
    have f3 : recsF (castF l k) v a b s n = recsF (castF l k') v a b s n := by
      unfold recsF
      refine fieldsF_congr fun i x y hy => ?_
      cases ht : fieldT a (b.labels.getD i ByteArray.empty) with
      | none => rfl
      | some t =>
        cases hu : b.args[i]? with
        | none => rfl
        | some u => exact ih _ _ _ _ _ (kid hy).1 (oa.arg (fieldT_mem ht).1) (ob.arg (List.mem_of_getElem? hu)) os (kid hy).2.1 (kid hy).2.2
    show stepF (castF l k) l v a b s n = stepF (castF l k') l v a b s n
    unfold stepF
    rw [hrev b ob, f1, f2, f3]
end
end Go.Sh.T

/- Less, and what a cast to what is less gives. -/
namespace Go.Sh.T
open Go Go.Sh
set_option linter.unusedSimpArgs false
set_option linter.unusedVariables false
set_option maxRecDepth 100000

/-- One type is another one with some parts put out. -/
inductive Ls : Ty → Ty → Prop
  | dyn {a x : Ty} (h : x = dynT) : Ls a x
  | alike {a x : Ty} (hk : a.k = x.k) (hn : a.n = x.n) (hs : a.name = x.name) (hl : a.labels = x.labels) (ha : a.args.length = x.args.length) (h : ∀ (i : Nat) (t u : Ty), a.args[i]? = some t → x.args[i]? = some u → Ls t u) : Ls a x
theorem arg_size {t u : Ty} (hu : u ∈ t.args) : SizeOf.sizeOf u < SizeOf.sizeOf t := by
  have := List.sizeOf_lt_of_mem hu
  cases t; simp only [Ty.mk.sizeOf_spec] at *; omega
theorem rightL_of' : ∀ {l : List Ty}, (∀ x ∈ l, x.right = true) → Ty.rightL l = true
  | [], _ => by rw [Ty.rightL]
  | y :: r, h => by rw [Ty.rightL, h y List.mem_cons_self, rightL_of' fun x hx => h x (List.mem_cons_of_mem _ hx)]; rfl
theorem Ls.right {a x : Ty} (h : Ls a x) : a.right = true → x.right = true := by
  induction h with
  | dyn e => intro _; rw [e]; exact dynT_fit.right
  | @alike a x hk hn hs hl ha h ih =>
    intro ra
    have ra' := ra
    rw [Ty.right_eq, Bool.and_eq_true] at ra'
    rw [Ty.right_eq, Bool.and_eq_true, ← hk, ← hn, ← hs, ← hl, ← ha]
    refine ⟨rightL_of' fun u hu => ?_, ra'.2⟩
    obtain ⟨i, hi⟩ := List.mem_iff_getElem?.1 hu
    have hi' : i < a.args.length := by have := (List.getElem?_eq_some_iff.1 hi).1; omega
    exact ih i _ u (List.getElem?_eq_getElem hi') hi (right_arg ra (List.getElem_mem hi'))
theorem right_leaf {a : Ty} (h : a.right = true) (h7 : a.k ≠ 7) (h8 : a.k ≠ 8) : a.args = [] := by
  rw [Ty.right_eq, Bool.and_eq_true] at h
  have h2 := h.2
  unfold nodeR at h2
  simp only [Bool.and_eq_true] at h2
  have h3 := h2.2
  have e7 : (a.k == 7) = false := by simpa using h7
  have e8 : (a.k == 8) = false := by simpa using h8
  rw [e7, e8] at h3
  refine List.eq_nil_of_length_eq_zero ?_
  cases c1 : decide (a.k ≥ 1) && decide (a.k ≤ 5) with
  | true => rw [c1, cond_true, beq_iff_eq] at h3; omega
  | false =>
    rw [c1, cond_false] at h3
    cases c2 : a.k == 6 with
    | true => rw [c2, cond_true, Bool.and_eq_true, beq_iff_eq, beq_iff_eq] at h3; omega
    | false =>
      rw [c2, cond_false] at h3
      cases c3 : a.k == 9 with
      | true => rw [c3, cond_true] at h3; simp only [Bool.and_eq_true, beq_iff_eq] at h3; omega
      | false => rw [c3] at h3; simp at h3
theorem Ls.leaf {a x : Ty} (h : Ls a x) (ra : a.right = true) (h7 : a.k ≠ 7) (h8 : a.k ≠ 8) : x = dynT ∨ a = x := by
  cases h with
  | dyn e => exact .inl e
  | alike hk hn hs hl ha _ =>
    have h0 := right_leaf ra h7 h8
    have h1 : x.args = [] := List.eq_nil_of_length_eq_zero (by rw [← ha, h0]; rfl)
    right
    cases a; cases x
    simp only at hk hn hs hl h0 h1
    subst hk hn hs hl h0 h1; rfl
theorem Ls.kind {a x : Ty} (h : Ls a x) : x = dynT ∨ a.k = x.k := by
  cases h with
  | dyn e => exact .inl e
  | alike hk _ _ _ _ _ => exact .inr hk
theorem Ls.args {a x : Ty} (h : Ls a x) (hx : x.loose = false) : a.k = x.k ∧ a.labels = x.labels ∧ a.args.length = x.args.length ∧ ∀ (i : Nat) (t u : Ty), a.args[i]? = some t → x.args[i]? = some u → Ls t u := by
  cases h with
  | dyn e => rw [e, dynT_loose] at hx; cases hx
  | alike hk _ _ hl ha h => exact ⟨hk, hl, ha, h⟩

/- the reference's Less -/
theorem dyn126 (t : Ty) (ot : t.Ok) (h : Heap) : evw E 126 [.agg t.cells] h = some (.ret (.lit (.bool (eqd t dynT))), h) := by
  refine evw_run primsC 0 rfl rfl rfl ?_
  rw [nf126]
  simp only [aggS, bind_some', Ty.cells_len, b5, condT, Ty.refold, dyn68, same23 t dynT _ ot, onOut_ret]
noncomputable def alikeB (a b : Ty) : Bool := eqd a.k b.k && (eqd a.n b.n && (eqd a.name b.name && (eqd a.labels b.labels && eqd a.args.length b.args.length)))
theorem alike127 (a b : Ty) (oa : a.Ok) (h : Heap) : evw E 127 [.agg a.cells, .agg b.cells] h = some (.ret (.lit (.bool (alikeB a b))), h) := by
  refine evw_run primsC 0 rfl rfl rfl ?_
  rw [nf127]
  have e1 : binAV E .eql 3 (a.cells.getD 0 .dead) (b.cells.getD 0 .dead) = some (.lit (.bool (eqd a.k b.k))) := by rw [Ty.c0, Ty.c0, bin_int, eqlE]
  have e2 : binAV E .eql 3 (a.cells.getD 1 .dead) (b.cells.getD 1 .dead) = some (.lit (.bool (eqd a.n b.n))) := by rw [Ty.c1, Ty.c1, bin_int, eqlE]
  have e3 : binAV E .eql 9 (a.cells.getD 2 .dead) (b.cells.getD 2 .dead) = some (.lit (.bool (eqd a.name b.name))) := by rw [Ty.c2, Ty.c2, bin_str, eqSt]
  have e4 : evw E 79 [a.cells.getD 3 .dead, b.cells.getD 3 .dead] h = some (.ret (.lit (.bool (eqd a.labels b.labels))), h) := by rw [Ty.c3, Ty.c3]; exact same79e _ _ oa.lab h
  have e5 : lenA E 29 (a.cells.getD 4 .dead) = some (a.args.length : Int) := by rw [Ty.c4, lenA29, List.length_map]
  have e6 : lenA E 29 (b.cells.getD 4 .dead) = some (b.args.length : Int) := by rw [Ty.c4, lenA29, List.length_map]
  have e7 : eqd (a.args.length : Int) (b.args.length : Int) = eqd a.args.length b.args.length := by rw [Bool.eq_iff_iff, eqd_iff, eqd_iff]; omega
  simp only [aggS, bind_some', Ty.cells_len, b5, condT, e1, e2, e3, e4, e5, e6, boolB, onOut_ret, bin_int, eqlE, e7]
  unfold alikeB
  cases eqd a.k b.k <;> cases eqd a.n b.n <;> cases eqd a.name b.name <;> cases eqd a.labels b.labels <;> rfl
theorem less70 : ∀ (m : Nat) (a b : Ty) (h : Heap), SizeOf.sizeOf a < m → a.Ok → b.Ok → ∃ c : Bool, evw E 70 [.agg a.cells, .agg b.cells] h = some (.ret (.lit (.bool c)), h) ∧ (c = true → Ls a b)
  | 0, a, b, h, hm, _, _ => by omega
  | m + 1, a, b, h, hm, oa, ob => by
    have ih := less70 m
    have la : a.args.length ≤ 9223372036854775807 := oa.len
    cases hd : eqd b dynT with
    | true =>
      refine ⟨true, evw_run primsC 0 rfl rfl rfl ?_, fun _ => .dyn (eqd_iff.1 hd)⟩
      rw [nf70]
      simp only [aggS, bind_some', Ty.cells_len, b5, condT, Ty.refold, dyn126 b ob, hd, onOut_ret, boolB]
    | false =>
    cases hk : alikeB a b with
    | false =>
      refine ⟨false, evw_run primsC 0 rfl rfl rfl ?_, fun e => by cases e⟩
      rw [nf70]
      simp only [aggS, bind_some', Ty.cells_len, b5, condT, condF, Ty.refold, dyn126 b ob, hd, alike127 a b oa, hk, onOut_ret, boolB, notB, Bool.not_false]
    | true =>
      have hk' := hk
      unfold alikeB at hk'
      simp only [Bool.and_eq_true, eqd_iff] at hk'
      obtain ⟨g1, g2, g3, g4, g5⟩ := hk'
      have loop : ∀ (q i : Nat), i ≤ a.args.length → a.args.length < q + i → ∃ c : Bool, Lp70_0 (evw E) (a.args.length + 1) h q h (a.cells.getD 0 .dead) (a.cells.getD 1 .dead) (a.cells.getD 2 .dead) (a.cells.getD 3 .dead) (a.cells.getD 4 .dead) (b.cells.getD 0 .dead) (b.cells.getD 1 .dead) (b.cells.getD 2 .dead) (b.cells.getD 3 .dead) (b.cells.getD 4 .dead) (.lit (.int .i64 (i : Int))) = some (.ret (.lit (.bool c)), h) ∧
          (c = true → ∀ (j : Nat) (t u : Ty), i ≤ j → a.args[j]? = some t → b.args[j]? = some u → Ls t u) := by
        intro q
        induction q with
        | zero => intro i h1 h2; omega
        | succ q ihq =>
          intro i h1 h2
          rw [Lp70_0_succ]
          simp only [Ty.c4, lenA29, bind_some', List.length_map, bin_int, lssI, boolB]
          by_cases hi : i < a.args.length
          · have hi2 : i < b.args.length := by omega
            obtain ⟨c, hc, hcb⟩ := ih a.args[i] b.args[i] h (by have := arg_size (List.getElem_mem hi); omega) (oa.arg (List.getElem_mem hi)) (ob.arg (List.getElem_mem hi2))
            rw [ltT hi, condT, ltT hi2, condT, indexA_map _ _ _ _ hi, bind_some', partA_full (Ty.cells_len _), bind_some', indexA_map _ _ _ _ hi2, bind_some', partA_full (Ty.cells_len _), bind_some', hc, onOut_ret, notB, bind_some', boolB, bind_some']
            cases c with
            | false => exact ⟨false, rfl, fun e => by cases e⟩
            | true =>
              rw [Bool.not_true, condF, addI, bind_some', incI (by omega)]
              obtain ⟨d, hd1, hd2⟩ := ihq (i + 1) hi (by omega)
              simp only [Ty.c4] at hd1
              refine ⟨d, hd1, fun e j t u hj e1 e2 => ?_⟩
              by_cases hji : j = i
              · rw [hji, List.getElem?_eq_getElem hi] at e1
                rw [hji, List.getElem?_eq_getElem hi2] at e2
                rw [← Option.some.inj e1, ← Option.some.inj e2]; exact hcb rfl
              · exact hd2 e j t u (by omega) e1 e2
          · rw [ltF hi, condF]
            exact ⟨true, rfl, fun _ j t u hj e1 _ => by have := (List.getElem?_eq_some_iff.1 e1).1; omega⟩
      obtain ⟨c, hc1, hc2⟩ := loop (a.args.length + 1) 0 (Nat.zero_le _) (by omega)
      have hc1 : Lp70_0 (evw E) (a.args.length + 1) h (a.args.length + 1) h (a.cells.getD 0 .dead) (a.cells.getD 1 .dead) (a.cells.getD 2 .dead) (a.cells.getD 3 .dead) (a.cells.getD 4 .dead) (b.cells.getD 0 .dead) (b.cells.getD 1 .dead) (b.cells.getD 2 .dead) (b.cells.getD 3 .dead) (b.cells.getD 4 .dead) (.lit (.int .i64 0)) = some (.ret (.lit (.bool c)), h) := hc1
      refine ⟨c, evw_run primsC (a.args.length + 1) rfl rfl rfl ?_, fun e => .alike g1 g2 g3 g4 g5 fun i t u => hc2 e i t u (Nat.zero_le _)⟩
      rw [nf70]
      simp only [aggS, bind_some', Ty.cells_len, b5, condT, condF, Ty.refold, dyn126 b ob, hd, alike127 a b oa, hk, onOut_ret, boolB, notB, Bool.not_true, hc1]

/- the reference's Near -/
theorem strip_ok : ∀ (m : Nat) (v : Val), SizeOf.sizeOf v < m → v.Ok → v.strip.Ok
  | 0, v, h, _ => by omega
  | m + 1, v, h, ov => by
    rw [strip_eq]
    cases eqd v.k 8 with
    | false => exact ov
    | true =>
      rw [cond_true]
      cases hk : v.kids with
      | nil => rw [Val.stripL]; exact ov
      | cons x r =>
        rw [Val.stripL]
        have hm : x ∈ v.kids := by rw [hk]; exact List.mem_cons_self
        exact strip_ok m x (by have := kid_size hm; omega) (ov.kid hm)
theorem strip_right : ∀ (m : Nat) (v : Val), SizeOf.sizeOf v < m → v.right = true → v.strip.right = true
  | 0, v, h, _ => by omega
  | m + 1, v, h, rv => by
    rw [strip_eq]
    cases eqd v.k 8 with
    | false => exact rv
    | true =>
      rw [cond_true]
      cases hk : v.kids with
      | nil => rw [Val.stripL]; exact rv
      | cons x r =>
        rw [Val.stripL]
        have hm : x ∈ v.kids := by rw [hk]; exact List.mem_cons_self
        exact strip_right m x (by have := kid_size hm; omega) (right_kid rv hm)
theorem strip128 : ∀ (m : Nat) (v : Val) (h : Heap), SizeOf.sizeOf v < m → v.Ok → evw E 128 [.agg v.cells] h = some (.ret (.agg v.strip.cells), h)
  | 0, v, h, hm, _ => by omega
  | m + 1, v, h, hm, ov => by
    have hlen : v.kids.length ≤ 9223372036854775807 := ov.len
    refine evw_run primsC 0 rfl rfl rfl ?_
    rw [nf128, strip_eq]
    simp only [aggS, bind_some', Val.cells_len, b10, condT, eB, eqlE, boolB, Val.re]
    cases hk : eqd v.k 8 with
    | false => rfl
    | true =>
      rw [condT, cond_true, Val.c9, lenA55, bind_some', List.length_map, bin_int, gtrI, bind_some', boolB, bind_some']
      cases hx : v.kids with
      | nil => rw [Val.stripL]; rfl
      | cons x r =>
        have hmem : x ∈ v.kids := by rw [hx]; exact List.mem_cons_self
        have j0 : indexA 10 (.sl 10 ((x :: r).map Val.cells)) (.lit (.int .i64 0)) = some x.cells := indexA_map (x :: r) Val.cells 10 0 (by simp)
        rw [Val.stripL, show decide (((x :: r).length : Int) > 0) = true from by simp, condT, j0, bind_some', partA_full (Val.cells_len _), bind_some', strip128 m x h (by have := kid_size hmem; omega) (ov.kid hmem), onOut_ret, aggS, bind_some', Val.cells_len, b10, condT, Val.re]
theorem near71 : ∀ (m : Nat) (v w : Val) (h : Heap), SizeOf.sizeOf v < m → v.Ok → w.Ok → v.right = true → Nr v w → evw E 71 [.agg v.cells, .agg w.cells] h = some (.ret (.lit (.bool true)), h)
  | 0, v, w, h, hm, _, _, _, _ => by omega
  | m + 1, v, w, h, hm, ov, ow, rv, hn => by
    have ih := near71 m
    have sv := strip128 _ v h (Nat.lt_succ_self _) ov
    have sw := strip128 _ w h (Nat.lt_succ_self _) ow
    have os := strip_ok _ v (Nat.lt_succ_self _) ov
    have ot := strip_ok _ w (Nat.lt_succ_self _) ow
    have rs := strip_right _ v (Nat.lt_succ_self _) rv
    have hz := strip_size v
    have hf : ∀ {x : ByteArray} {y : Val}, fieldV v.strip x = some y → ∃ z, fieldV w.strip x = some z ∧ Nr y z := fun hy => hn.get hy
    have hn' := hn
    generalize hsv : v.strip = p at *
    generalize hsw : w.strip = q at *
    have hll : p.labels.length ≤ 9223372036854775807 := os.lab
    have enq : ∀ x : Int, binAV E .neq 3 (p.cells.getD 0 .dead) (.lit (.int .i64 x)) = some (.lit (.bool (!(eqd p.k x)))) := fun x => by rw [eB, neqE]
    have enk : binAV E .neq 3 (p.cells.getD 0 .dead) (q.cells.getD 0 .dead) = some (.lit (.bool (!(eqd p.k q.k)))) := by rw [Val.c0, Val.c0, bin_int, neqE]
    have hL : p.k = 4 → Lp71_0 (evw E) (p.labels.length + 1) h (p.labels.length + 1) h (p.cells.getD 0 .dead) (p.cells.getD 1 .dead) (p.cells.getD 2 .dead) (p.cells.getD 3 .dead) (p.cells.getD 4 .dead) (p.cells.getD 5 .dead) (p.cells.getD 6 .dead) (p.cells.getD 7 .dead) (p.cells.getD 8 .dead) (p.cells.getD 9 .dead) (q.cells.getD 0 .dead) (q.cells.getD 1 .dead) (q.cells.getD 2 .dead) (q.cells.getD 3 .dead) (q.cells.getD 4 .dead) (q.cells.getD 5 .dead) (q.cells.getD 6 .dead) (q.cells.getD 7 .dead) (q.cells.getD 8 .dead) (q.cells.getD 9 .dead) (.lit (.int .i64 0)) = some (.ret (.lit (.bool true)), h) := by
      intro h4
      obtain ⟨_, _, _, _, _, _, _, hlen, hris⟩ := right_recV rs h4
      have loop : ∀ (r i : Nat), i ≤ p.labels.length → p.labels.length < r + i → Lp71_0 (evw E) (p.labels.length + 1) h r h (p.cells.getD 0 .dead) (p.cells.getD 1 .dead) (p.cells.getD 2 .dead) (p.cells.getD 3 .dead) (p.cells.getD 4 .dead) (p.cells.getD 5 .dead) (p.cells.getD 6 .dead) (p.cells.getD 7 .dead) (p.cells.getD 8 .dead) (p.cells.getD 9 .dead) (q.cells.getD 0 .dead) (q.cells.getD 1 .dead) (q.cells.getD 2 .dead) (q.cells.getD 3 .dead) (q.cells.getD 4 .dead) (q.cells.getD 5 .dead) (q.cells.getD 6 .dead) (q.cells.getD 7 .dead) (q.cells.getD 8 .dead) (q.cells.getD 9 .dead) (.lit (.int .i64 (i : Int))) = some (.ret (.lit (.bool true)), h) := by
        intro r
        induction r with
        | zero => intro i h1 h2; omega
        | succ r ihr =>
          intro i h1 h2
          rw [Lp71_0_succ]
          by_cases hi : i < p.labels.length
          · have hi2 : i < p.kids.length := by omega
            have hg : p.labels.getD i ByteArray.empty = p.labels[i] := by rw [List.getD_eq_getElem?_getD, List.getElem?_eq_getElem hi]; rfl
            have hy := fieldV_at hris h4 rfl hi (List.getElem?_eq_getElem hi2)
            rw [hg] at hy
            obtain ⟨z, hz1, hz2⟩ := hf hy
            have hm := List.getElem_mem hi2
            have hmz := (fieldV_mem hz1).1
            have hrec := ih p.kids[i] z h (by have := kid_size hm; omega) (os.kid hm) (ot.kid hmz) (right_kid rs hm) hz2
            have h8 : p.cells.getD 8 .dead = .sl 1 (p.labels.map strC) := Val.c8 p
            have e8 : lenA E 31 (p.cells.getD 8 .dead) = some (p.labels.length : Int) := by rw [h8, lenA31, List.length_map]
            have j8 : indexA 1 (p.cells.getD 8 .dead) (.lit (.int .i64 (i : Int))) = some (strC p.labels[i]) := by rw [h8]; exact indexA_map _ _ _ _ hi
            have f1 := field129 p os p.labels[i] h
            have f2 := field129 q ot p.labels[i] h
            rw [hy] at f1
            rw [hz1] at f2
            rw [e8, bind_some', bin_int, lssI, bind_some', boolB, bind_some', ltT hi, condT, j8, bind_some', part_str, bind_some', Val.re, f1, onOut_ret, tupS, bind_some', t20, bind_some', bind_some', t21, bind_some', aggS, bind_some', Val.cells_len, b10, condT, bind_some', part_str, bind_some', Val.re, f2, onOut_ret, tupS, bind_some', t20, bind_some', bind_some', t21, bind_some', aggS, bind_some', Val.cells_len, b10, condT]
            simp only [Option.isSome_some, Option.getD_some, notB, bind_some', boolB, Bool.not_true, condF, Val.re, hrec, onOut_ret, bin_int, addI, incI (show i < 9223372036854775807 by omega)]
            exact ihr (i + 1) hi (by omega)
          · have e8 : lenA E 31 (p.cells.getD 8 .dead) = some (p.labels.length : Int) := by rw [show p.cells.getD 8 .dead = .sl 1 (p.labels.map strC) from Val.c8 p, lenA31, List.length_map]
            rw [e8, bind_some', bin_int, lssI, bind_some', boolB, bind_some', ltF hi, condF]
      exact loop _ 0 (Nat.zero_le _) (by omega)
    have fin : p.fn = true → q.fn = true → evw E 71 [.agg v.cells, .agg w.cells] h = some (.ret (.lit (.bool true)), h) := by
      intro g1 g2
      refine evw_run primsC 0 rfl rfl rfl ?_
      rw [nf71]
      simp only [aggS, bind_some', Val.cells_len, b10, condT, condF, Val.re, sv, sw, onOut_ret, fun119, boolB, g1, g2]
    have main : ¬ (p.fn = true ∧ q.fn = true) → p.k = q.k → (p.k ≠ 4 → p = q) → evw E 71 [.agg v.cells, .agg w.cells] h = some (.ret (.lit (.bool true)), h) := by
      intro hff hkk hleaf
      have ek : eqd p.k q.k = true := eqd_iff.2 hkk
      refine evw_run primsC (p.labels.length + 1) rfl rfl rfl ?_
      rw [nf71]
      simp only [aggS, bind_some', Val.cells_len, b10, condT, condF, Val.re, sv, sw, onOut_ret, fun119, boolB, enk, ek, Bool.not_true, enq, same51 p q h os]
      by_cases h4 : p.k = 4
      · have e4 : eqd p.k 4 = true := eqd_iff.2 h4
        cases g1 : p.fn with
        | true => exact absurd h4 (fn_ne g1).1
        | false => simp only [e4, Bool.not_true, condF, hL h4]
      · have e4 : eqd p.k 4 = false := eqdN h4
        have e5 : eqd p q = true := eqd_iff.2 (hleaf h4)
        cases g1 : p.fn with
        | true =>
          cases g2 : q.fn with
          | true => exact absurd ⟨g1, g2⟩ hff
          | false => simp only [e4, e5, Bool.not_false, condT, condF]
        | false => simp only [e4, e5, Bool.not_false, condT, condF]
    cases hn' with
    | fn h1 h2 => rw [hsv] at h1; rw [hsw] at h2; exact fin h1 h2
    | leaf e hk =>
      rw [hsv, hsw] at e
      rw [hsv] at hk
      by_cases hff : p.fn = true ∧ q.fn = true
      · exact fin hff.1 hff.2
      · exact main hff (by rw [e]) fun _ => e
    | rcd h1 h2 f h3 h4 =>
      rw [hsv] at h1
      rw [hsw] at h2
      refine main (fun ⟨g, _⟩ => (fn_ne g).1 h1) (by rw [h1, h2]) fun h => absurd h1 h
end Go.Sh.T

/- Casts to what is less give what is near. -/
namespace Go.Sh.T
open Go Go.Sh
set_option linter.unusedSimpArgs false
set_option linter.unusedVariables false
set_option maxRecDepth 100000

/-- The same, but for functions. -/
inductive Rf : Val → Val → Prop
  | fn {v w : Val} (hv : v.fn = true) (hw : w.fn = true) : Rf v w
  | same {v w : Val} (e : v = w) : Rf v w
  | rcd {v w : Val} (hv : v.k = 4) (hw : w.k = 4) (hl : v.labels = w.labels) (hn : v.kids.length = w.kids.length) (h : ∀ (i : Nat) (y z : Val), v.kids[i]? = some y → w.kids[i]? = some z → Rf y z) : Rf v w
theorem field_ix {v y : Val} {x : ByteArray} (h : fieldV v x = some y) : ∃ i : Nat, ix v.labels x = some i ∧ v.kids[i]? = some y := by
  have hk := (fieldV_mem h).2
  unfold fieldV at h
  rw [hk, eqd_self, cond_true, Option.bind_eq_some_iff] at h
  exact h
theorem ix_field {v y : Val} {x : ByteArray} {i : Nat} (hk : v.k = 4) (h1 : ix v.labels x = some i) (h2 : v.kids[i]? = some y) : fieldV v x = some y := by
  unfold fieldV
  rw [hk, eqd_self, cond_true, h1]; exact h2
theorem Rf.near {v w : Val} (h : Rf v w) : Nr v w := by
  induction h with
  | fn h1 h2 => exact .fn (by rw [fn_strip h1]; exact h1) (by rw [fn_strip h2]; exact h2)
  | @same v w e => rw [e]; exact Nr.refl w
  | @rcd v w hv hw hl hn h ih =>
    refine Nr.of (by rw [k4_strip hv]; exact hv) (by rw [k4_strip hw]; exact hw) fun x y hy => ?_
    rw [k4_strip hv] at hy
    rw [k4_strip hw]
    obtain ⟨i, h1, h2⟩ := field_ix hy
    have hi : i < w.kids.length := by have := (List.getElem?_eq_some_iff.1 h2).1; omega
    exact ⟨_, ix_field hw (by rw [← hl]; exact h1) (List.getElem?_eq_getElem hi), ih i y _ h2 (List.getElem?_eq_getElem hi)⟩
theorem Rf.field {v w y : Val} {x : ByteArray} (h : Rf v w) (hy : fieldV v x = some y) : ∃ z, fieldV w x = some z ∧ Rf y z := by
  have hk := (fieldV_mem hy).2
  cases h with
  | fn h1 _ => exact absurd hk (fn_ne h1).1
  | same e => rw [← e]; exact ⟨y, hy, .same rfl⟩
  | rcd hv hw hl hn h =>
    obtain ⟨i, h1, h2⟩ := field_ix hy
    have hi : i < w.kids.length := by have := (List.getElem?_eq_some_iff.1 h2).1; omega
    exact ⟨_, ix_field hw (by rw [← hl]; exact h1) (List.getElem?_eq_getElem hi), h i y _ h2 (List.getElem?_eq_getElem hi)⟩
theorem loose_of {x : Ty} (h1 : x.k ≠ 5) (h2 : x.k ≠ 4) : x.loose = false := by unfold Ty.loose; rw [eqdN h1, eqdN h2]; rfl
theorem Ls.refl' : ∀ (m : Nat) (a : Ty), SizeOf.sizeOf a < m → Ls a a
  | 0, a, h => by omega
  | m + 1, a, h => .alike rfl rfl rfl rfl rfl fun i t u h1 h2 => by
    rw [h1] at h2
    rw [← Option.some.inj h2]
    have := arg_size (List.mem_of_getElem? h1)
    exact Ls.refl' m t (by omega)
theorem Ls.refl (a : Ty) : Ls a a := Ls.refl' _ a (Nat.lt_succ_self _)
/-- A right type that is no function, record nor variable, by its kind and number. -/
theorem right_plain {a : Ty} (h : a.right = true) (h6 : a.k ≠ 6) (h7 : a.k ≠ 7) (h8 : a.k ≠ 8) : a.args = [] ∧ a.labels = [] ∧ a.name = ByteArray.empty ∧ (a.k ≠ 9 → a.n = 0) := by
  have ha := right_leaf h h7 h8
  rw [Ty.right_eq, Bool.and_eq_true] at h
  have h2 := h.2
  unfold nodeR at h2
  rw [Bool.and_eq_true] at h2
  have h3 := h2.1
  have e6 : (a.k != 6) = true := by simpa using h6
  have e8 : (a.k != 8) = true := by simpa using h8
  rw [e6, e8] at h3
  simp only [Bool.true_and, Bool.not_eq_true', Bool.or_eq_false_iff, Bool.not_eq_false', decide_eq_false_iff_not] at h3
  obtain ⟨⟨g1, g2⟩, g3⟩ := h3
  refine ⟨ha, List.eq_nil_of_length_eq_zero (by omega), ?_, fun h9 => ?_⟩
  · unfold emptyS at g1
    exact strEq_iff.1 (show strEq a.name ByteArray.empty = true from g1)
  · have e9 : (a.k != 9) = true := by simpa using h9
    rw [e9, Bool.true_and] at g2
    simpa using g2
theorem plain_eq {a b : Ty} (ha : a.right = true) (hb : b.right = true) (hk : a.k = b.k) (h6 : a.k ≠ 6) (h7 : a.k ≠ 7) (h8 : a.k ≠ 8) (hn : a.k = 9 → a.n = b.n) : a = b := by
  obtain ⟨a1, a2, a3, a4⟩ := right_plain ha h6 h7 h8
  obtain ⟨b1, b2, b3, b4⟩ := right_plain hb (by rw [← hk]; exact h6) (by rw [← hk]; exact h7) (by rw [← hk]; exact h8)
  have hn' : a.n = b.n := by
    by_cases h9 : a.k = 9
    · exact hn h9
    · rw [a4 h9, b4 (by rw [← hk]; exact h9)]
  cases a; cases b
  simp only at a1 a2 a3 b1 b2 b3 hk hn'
  subst a1 a2 a3 b1 b2 b3 hk hn'; rfl
section
variable {l : List Seal}
theorem isV_inv {v : Val} {t : Ty} (h : isV l v t = true) : t.loose = true ∨ Base t v ∨ (t.k = 7 ∧ v.fn = true) ∨ (t.k = 8 ∧ v.k = 4) ∨ (t.k = 9 ∧ v.k = 8 ∧ v.n = t.n) := by
  cases hl : t.loose with
  | true => exact .inl rfl
  | false =>
    right
    by_cases h1 : t.k = 1
    · rw [isV_eq, h1, eqd_self, cond_true] at h; exact .inl (.inl ⟨h1, eqd_iff.1 h⟩)
    by_cases h2 : t.k = 2
    · rw [isV_eq, h2, eqdN (show (2 : Int) ≠ 1 by decide), eqd_self, cond_false, cond_true] at h; exact .inl (.inr (.inl ⟨h2, eqd_iff.1 h⟩))
    by_cases h3 : t.k = 3
    · rw [isV_eq, h3, eqdN (show (3 : Int) ≠ 1 by decide), eqdN (show (3 : Int) ≠ 2 by decide), eqd_self, cond_false, cond_false, cond_true] at h; exact .inl (.inr (.inr ⟨h3, eqd_iff.1 h⟩))
    by_cases h7 : t.k = 7
    · rw [isV_fun h7] at h; exact .inr (.inl ⟨h7, h⟩)
    by_cases h8 : t.k = 8
    · exact .inr (.inr (.inl ⟨h8, isV_k4 h8 h⟩))
    by_cases h9 : t.k = 9
    · rw [isV_seal h9] at h
      simp only [Bool.and_eq_true] at h
      exact .inr (.inr (.inr ⟨h9, eqd_iff.1 h.1, eqd_iff.1 h.2.1⟩))
    · rw [isV_var h1 h2 h3 h7 h8 h9 hl] at h; cases h
theorem castF_loose (k : Nat) (v : Val) (a x : Ty) (s : ByteArray) (n : Int) (hx : x.loose = true) : castF l (k + 1) v a x s n = (bif eqd a.k 9 || a.loose then .ok v else inF (castF l k) v a s n) := by
  show stepF _ l v a x s n = _
  unfold stepF
  cases h : eqd a x with
  | true => rw [eqd_iff.1 h, hx, Bool.or_true]; rfl
  | false =>
    rw [hx]
    cases eqd a.k 9 <;> cases a.loose <;> rfl
theorem castF_from (k : Nat) (v : Val) (x a : Ty) (s : ByteArray) (n : Int) (hx : x.loose = true) (ha : a.loose = false) : castF l (k + 1) v x a s n = outF (castF l k) l v a s n := by
  show stepF _ l v x a s n = _
  unfold stepF
  rw [show eqd x a = false from eqd_f (fun e => by rw [← e, hx] at ha; cases ha), show eqd x.k 9 = false from eqd_f (by rcases loose_k hx with e | e <;> rw [e] <;> decide), hx, ha]
  rfl
theorem castF_77 (k : Nat) (v : Val) (a b : Ty) (s : ByteArray) (n : Int) (e : a ≠ b) (ha : a.k = 7) (hb : b.k = 7) : castF l (k + 1) v a b s n = wrapV v a b s n := by
  show stepF _ l v a b s n = _
  unfold stepF
  rw [eqd_f e, loose_of (x := a) (by rw [ha]; decide) (by rw [ha]; decide), loose_of (x := b) (by rw [hb]; decide) (by rw [hb]; decide), ha, hb, eqdN (show (7 : Int) ≠ 9 by decide), eqd_self]
  rfl
theorem castF_88 (k : Nat) (v : Val) (a b : Ty) (s : ByteArray) (n : Int) (e : a ≠ b) (ha : a.k = 8) (hb : b.k = 8) : castF l (k + 1) v a b s n = recsF (castF l k) v a b s n := by
  show stepF _ l v a b s n = _
  unfold stepF
  rw [eqd_f e, loose_of (x := a) (by rw [ha]; decide) (by rw [ha]; decide), loose_of (x := b) (by rw [hb]; decide) (by rw [hb]; decide), ha, hb, eqdN (show (8 : Int) ≠ 9 by decide), eqdN (show (8 : Int) ≠ 7 by decide), eqd_self]
  rfl
theorem fn_cast {v : Val} {a b : Ty} {s : ByteArray} {n : Int} {w : Val} (h : wrapV v a b s n = .ok w) : w.fn = true := by
  obtain ⟨h1, h2⟩ := wrapV_ok h
  rcases h2 with ⟨_, e⟩ | ⟨_, e⟩
  · rw [e]; exact h1
  · rw [e]; unfold Val.fn; simp [eqd_self]
/-- To what is less, or to ?: never a blame, and all but functions stays. -/
theorem castF_less : ∀ (k : Nat) (v : Val) (a x : Ty) (s : ByteArray) (n : Int), isV l v a = true → a.right = true → (Ls a x ∨ x.loose = true) → v.dep < k → ∃ u, castF l k v a x s n = .ok u ∧ Rf v u
  | 0, v, a, x, s, n, _, _, _, h => by omega
  | k + 1, v, a, x, s, n, hv, ra, hax, hd => by
    have ih := castF_less k
    by_cases e : a = x
    · rw [e]; exact ⟨v, castF_same k v x s n, .same rfl⟩
    have kid : ∀ {i : Nat} {y : Val}, v.k = 4 → v.kids[i]? = some y → y.dep < k := fun {i y} h4 h => by
      have := dep_kid (show eqd v.k 6 = false from by rw [h4]; exact eqdN (by decide)) (List.mem_of_getElem? h)
      omega
    have recs : a.k = 8 → ∀ (g : Nat → Ty), (∀ i t, a.args[i]? = some t → Ls t (g i) ∨ (g i).loose = true) → ∃ ks : List Val, ks.length = a.args.length ∧ ∀ (i : Nat) (w : Val), ks[i]? = some w → ∃ y t, v.kids[i]? = some y ∧ a.args[i]? = some t ∧ fieldV v (a.labels.getD i ByteArray.empty) = some y ∧ castF l k y t (g i) s n = .ok w ∧ Rf y w := by
      intro h8 g hg
      have hr := right_rec ra h8
      have h4 := isV_k4 h8 hv
      have hv' := hv
      rw [isV_rec h8] at hv'
      simp only [Bool.and_eq_true] at hv'
      have hlab : v.labels = a.labels := eqd_iff.1 hv'.2.1
      have hlen : v.kids.length = a.args.length := by have := eqd_iff.1 hv'.2.2.1; omega
      refine list_choose _ a.args.length fun i hi => ?_
      have hi' : i < v.kids.length := by omega
      have hy := List.getElem?_eq_getElem hi'
      have ht := List.getElem?_eq_getElem hi
      obtain ⟨w, e1, e2⟩ := ih v.kids[i] a.args[i] (g i) s n (isV2_get hv'.2.2.2 hy ht) (right_arg ra (List.getElem_mem hi)) (hg i _ ht) (kid h4 hy)
      exact ⟨w, _, _, hy, ht, fieldV_at hr.1 h4 hlab (by omega) hy, e1, e2⟩
    have recd : a.k = 8 → ∀ ks : List Val, ks.length = a.args.length → (∀ (i : Nat) (w : Val), ks[i]? = some w → ∃ y, v.kids[i]? = some y ∧ Rf y w) → Rf v (recV a.labels ks) := by
      intro h8 ks hk hall
      have h4 := isV_k4 h8 hv
      have hv' := hv
      rw [isV_rec h8] at hv'
      simp only [Bool.and_eq_true] at hv'
      have hlen : v.kids.length = a.args.length := by have := eqd_iff.1 hv'.2.2.1; omega
      refine .rcd h4 rfl (eqd_iff.1 hv'.2.1) (show v.kids.length = ks.length by omega) fun i y z h1 h2 => ?_
      obtain ⟨y', e1, e2⟩ := hall i z h2
      rw [h1] at e1
      rw [Option.some.inj e1]; exact e2
    cases hx : x.loose with
    | true =>
      rw [castF_loose k v a x s n hx]
      rcases isV_inv hv with h | h | ⟨h7, h⟩ | ⟨h8, h⟩ | ⟨h9, _⟩
      · rw [h, Bool.or_true]; exact ⟨v, rfl, .same rfl⟩
      · have ha9 : eqd a.k 9 = false := by rcases h with ⟨e, _⟩ | ⟨e, _⟩ | ⟨e, _⟩ <;> rw [e] <;> exact eqdN (by decide)
        have hal : a.loose = false := by rcases h with ⟨e, _⟩ | ⟨e, _⟩ | ⟨e, _⟩ <;> exact loose_of (by rw [e]; decide) (by rw [e]; decide)
        rw [ha9, hal]
        refine ⟨v, ?_, .same rfl⟩
        show inF _ v a s n = _
        unfold inF
        rcases h with ⟨e1, e2⟩ | ⟨e1, e2⟩ | ⟨e1, e2⟩ <;> rw [e1, e2] <;> simp only [eqd_self, eqdN (show (2 : Int) ≠ 1 by decide), eqdN (show (3 : Int) ≠ 1 by decide), eqdN (show (3 : Int) ≠ 2 by decide), cond_true, cond_false]
      · rw [loose_of (x := a) (by rw [h7]; decide) (by rw [h7]; decide), show eqd a.k 9 = false from eqdN (by rw [h7]; decide)]
        obtain ⟨w, hw⟩ := wrapV_sure (a := a) (b := unkT) (s := s) (n := n) h
        refine ⟨w, ?_, .fn h (fn_cast hw)⟩
        show inF _ v a s n = _
        unfold inF
        rw [h7, eqdN (show (7 : Int) ≠ 1 by decide), eqdN (show (7 : Int) ≠ 2 by decide), eqdN (show (7 : Int) ≠ 3 by decide), eqd_self]
        exact hw
      · rw [loose_of (x := a) (by rw [h8]; decide) (by rw [h8]; decide), show eqd a.k 9 = false from eqdN (by rw [h8]; decide)]
        have hr := right_rec ra h8
        obtain ⟨ks, kl, kp⟩ := recs h8 (fun _ => dynT) fun _ _ _ => .inr dynT_loose
        refine ⟨recV a.labels ks, ?_, recd h8 ks kl fun i w hi => by obtain ⟨y, t, e1, _, _, _, e2⟩ := kp i w hi; exact ⟨y, e1, e2⟩⟩
        show inF _ v a s n = _
        unfold inF
        rw [h8, eqdN (show (8 : Int) ≠ 1 by decide), eqdN (show (8 : Int) ≠ 2 by decide), eqdN (show (8 : Int) ≠ 3 by decide), eqdN (show (8 : Int) ≠ 7 by decide), eqd_self]
        simp only [cond_true, cond_false]
        refine fieldsF_all h (by omega) fun j w hj => ?_
        obtain ⟨y, t, _, e2, e3, e4, _⟩ := kp j w hj
        refine ⟨y, e3, ?_⟩
        show (match a.args[j]? with | some t => _ | none => _) = _
        rw [e2]; exact e4
      · rw [h9, eqd_self, Bool.true_or]; exact ⟨v, rfl, .same rfl⟩
    | false =>
      have hls : Ls a x := by
        rcases hax with h | h
        · exact h
        · rw [hx] at h; cases h
      have hxd : x ≠ dynT := fun e => by rw [e, dynT_loose] at hx; cases hx
      obtain ⟨hk, hlb, hln, hall⟩ := hls.args hx
      by_cases h7 : a.k = 7
      · rw [castF_77 k v a x s n e h7 (by rw [← hk]; exact h7)]
        rw [isV_fun h7] at hv
        obtain ⟨w, hw⟩ := wrapV_sure (a := a) (b := x) (s := s) (n := n) hv
        exact ⟨w, hw, .fn hv (fn_cast hw)⟩
      by_cases h8 : a.k = 8
      · rw [castF_88 k v a x s n e h8 (by rw [← hk]; exact h8)]
        have hr := right_rec ra h8
        have h4 := isV_k4 h8 hv
        obtain ⟨ks, kl, kp⟩ := recs h8 (fun i => (x.args[i]?).getD zeroT) fun i t ht => .inl (by
          have hi : i < x.args.length := by have := (List.getElem?_eq_some_iff.1 ht).1; omega
          rw [List.getElem?_eq_getElem hi]
          exact hall i t _ ht (List.getElem?_eq_getElem hi))
        refine ⟨recV a.labels ks, ?_, recd h8 ks kl fun i w hi => by obtain ⟨y, t, e1, _, _, _, e2⟩ := kp i w hi; exact ⟨y, e1, e2⟩⟩
        unfold recsF
        rw [← hlb]
        refine fieldsF_all h4 (by omega) fun j w hj => ?_
        obtain ⟨y, t, _, e2, e3, e4, _⟩ := kp j w hj
        have hj' : j < a.args.length := by have := (List.getElem?_eq_some_iff.1 e2).1; omega
        have hjx : j < x.args.length := by omega
        refine ⟨y, e3, ?_⟩
        rw [field_at hr.1 h8 (by omega) e2]
        show (match x.args[j]? with | some u => _ | none => _) = _
        rw [List.getElem?_eq_getElem hjx] at e4 ⊢
        exact e4
      · rcases hls.leaf ra h7 h8 with h | h
        · exact absurd h hxd
        · exact absurd h e
end
end Go.Sh.T

/- A cast between types that are less does all that the cast does. -/
namespace Go.Sh.T
open Go Go.Sh
set_option linter.unusedSimpArgs false
set_option linter.unusedVariables false
set_option maxRecDepth 100000

section
variable {l : List Seal}
theorem castF_reveal (k : Nat) (v : Val) (x y : Ty) (s : ByteArray) (n : Int) (hk : v.k = 8) (hx : x.loose = true ∨ (x.k = 9 ∧ v.n = x.n)) (hxy : x ≠ y) (hy : y.loose = false) (hn : ¬ (y.k = 9 ∧ y.n = v.n)) : castF l (k + 1) v x y s n = revealF (castF l k) l v y s n := by
  rcases hx with hx | ⟨h9, hn'⟩
  · rw [castF_from k v x y s n hx hy]
    unfold outF
    have : (eqd y.k 9 && eqd y.n v.n) = false := by
      cases h : eqd y.k 9 && eqd y.n v.n with
      | false => rfl
      | true => rw [Bool.and_eq_true, eqd_iff, eqd_iff] at h; exact absurd h hn
    rw [hk, eqd_self, cond_true, this, cond_false]
  · show stepF _ l v x y s n = _
    unfold stepF
    rw [eqd_f hxy, h9, eqd_self, hy, hk, hn', eqd_self, eqd_self]
    rfl
/-- To a seal there is a way from seals alone. -/
theorem castF_seal (k : Nat) (v : Val) (a b : Ty) (s : ByteArray) (n : Int) (w : Val) (hv : isV l v a = true) (hb : b.k = 9) (h : castF l (k + 1) v a b s n = .ok w) : v.k = 8 := by
  have bl : b.loose = false := loose_of (by rw [hb]; decide) (by rw [hb]; decide)
  have nb : ∀ {P : Prop}, b.loose = true → P := fun h => by rw [h] at bl; cases bl
  revert h
  show stepF (castF l k) l v a b s n = .ok w → v.k = 8
  refine stepF_cases (P := fun g => g = .ok w → v.k = 8) (castF l k) l v a b s n ?_ ?_ ?_ ?_ ?_ ?_ ?_ ?_ ?_ ?_ ?_ ?_ ?_ ?_ ?_
  · intro e _
    rw [e] at hv
    rw [isV_seal hb] at hv
    simp only [Bool.and_eq_true] at hv
    exact eqd_iff.1 hv.1
  · intro _ h; exact nb h
  · intro _ _ h _ _; exact h
  · intro _ h; cases h
  · intro _ h; exact nb h
  · intro _ h _ _ _; exact h
  · intro _ _ h _; exact h
  · intro _ h; rcases h with ⟨e, _⟩ | ⟨e, _⟩ | ⟨e, _⟩ <;> omega
  · intro _ _ h; omega
  · intro _ _ h; omega
  · intro h; exact nb h
  · intro h; exact nb h
  · intro h; exact nb h
  · intro _ _ h; omega
  · intro _ _ h; omega
/-- What a cast to a record did, field by field. -/
theorem castF_recOk (k : Nat) (v : Val) (a b : Ty) (s : ByteArray) (n : Int) (w : Val) (hv : isV l v a = true) (ra : a.right = true) (rb : b.right = true) (hb : b.k = 8) (hvk : v.k ≠ 8) (hd : v.dep < k + 1) (h : castF l (k + 1) v a b s n = .ok w) :
    v.k = 4 ∧ w.k = 4 ∧ w.labels = b.labels ∧ w.kids.length = b.labels.length ∧ ∀ j, j < b.labels.length → ∃ y t u z, fieldV v (b.labels.getD j ByteArray.empty) = some y ∧ isV l y t = true ∧ b.args[j]? = some u ∧ castF l k y t u s n = .ok z ∧ w.kids[j]? = some z ∧
      ((a.loose = true ∧ t = dynT) ∨ fieldT a (b.labels.getD j ByteArray.empty) = some t) := by
  have bl : b.loose = false := loose_of (by rw [hb]; decide) (by rw [hb]; decide)
  have nb : ∀ {P : Prop}, b.loose = true → P := fun h => by rw [h] at bl; cases bl
  have hr := right_rec rb hb
  revert h
  show stepF (castF l k) l v a b s n = .ok w → _
  refine stepF_cases (P := fun g => g = .ok w → v.k = 4 ∧ w.k = 4 ∧ w.labels = b.labels ∧ w.kids.length = b.labels.length ∧ ∀ j, j < b.labels.length → ∃ y t u z, fieldV v (b.labels.getD j ByteArray.empty) = some y ∧ isV l y t = true ∧ b.args[j]? = some u ∧ castF l k y t u s n = .ok z ∧ w.kids[j]? = some z ∧
      ((a.loose = true ∧ t = dynT) ∨ fieldT a (b.labels.getD j ByteArray.empty) = some t)) (castF l k) l v a b s n ?_ ?_ ?_ ?_ ?_ ?_ ?_ ?_ ?_ ?_ ?_ ?_ ?_ ?_ ?_
  · intro e h
    rw [← Got.ok.inj h]
    rw [e] at hv
    rw [e]
    have h4 := isV_k4 hb hv
    have hv' := hv
    rw [isV_rec hb] at hv'
    simp only [Bool.and_eq_true] at hv'
    have hlab : v.labels = b.labels := eqd_iff.1 hv'.2.1
    have hlen : v.kids.length = b.args.length := by have := eqd_iff.1 hv'.2.2.1; omega
    refine ⟨h4, h4, hlab, by omega, fun j hj => ?_⟩
    have h1 : j < v.kids.length := by omega
    have h2 : j < b.args.length := by omega
    have hy := List.getElem?_eq_getElem h1
    have ht := List.getElem?_eq_getElem h2
    have := dep_kid (show eqd v.k 6 = false from by rw [h4]; exact eqdN (by decide)) (List.getElem_mem h1)
    obtain ⟨q, rfl⟩ : ∃ q, k = q + 1 := ⟨k - 1, by omega⟩
    exact ⟨_, _, _, _, fieldV_at hr.1 h4 hlab hj hy, isV2_get hv'.2.2.2 hy ht, ht, castF_same q _ _ s n, hy, .inr (field_at hr.1 hb hj ht)⟩
  · intro _ h; exact nb h
  · intro _ _ h _ _; exact absurd h hvk
  · intro _ h; cases h
  · intro _ h; exact nb h
  · intro _ h _ _ _; exact absurd h hvk
  · intro _ _ h _; exact absurd h hvk
  · intro _ h; rcases h with ⟨e, _⟩ | ⟨e, _⟩ | ⟨e, _⟩ <;> omega
  · intro _ _ h; omega
  · intro ha _ _ h
    obtain ⟨h4, ks, e, kl, kp⟩ := fieldsF_ok h
    rw [e]
    refine ⟨h4, rfl, rfl, kl, fun j hj => ?_⟩
    have hjk : j < ks.length := by omega
    obtain ⟨x, y, e1, e2, e3⟩ := kp j _ (List.getElem?_eq_getElem hjk)
    have hx : b.labels.getD j ByteArray.empty = x := by rw [List.getD_eq_getElem?_getD, e1]; rfl
    have hja : j < b.args.length := by omega
    have ht := List.getElem?_eq_getElem hja
    simp only [ht] at e3
    exact ⟨y, dynT, _, ks[j], by rw [hx]; exact e2, isV_fieldD (isV_known v a hv) e2, ht, e3, List.getElem?_eq_getElem hjk, .inl ⟨ha, rfl⟩⟩
  · intro h; exact nb h
  · intro h; exact nb h
  · intro h; exact nb h
  · intro _ _ h; omega
  · intro _ ha _ h
    obtain ⟨h4, ks, e, kl, kp⟩ := fieldsF_ok h
    rw [e]
    refine ⟨h4, rfl, rfl, kl, fun j hj => ?_⟩
    have hjk : j < ks.length := by omega
    obtain ⟨x, y, e1, e2, e3⟩ := kp j _ (List.getElem?_eq_getElem hjk)
    have hx : b.labels.getD j ByteArray.empty = x := by rw [List.getD_eq_getElem?_getD, e1]; rfl
    have hja : j < b.args.length := by omega
    have ht := List.getElem?_eq_getElem hja
    rw [hx] at e3 ⊢
    cases hf : fieldT a x with
    | none => simp only [hf] at e3; cases e3
    | some t =>
      simp only [hf, ht] at e3
      exact ⟨y, t, _, ks[j], e2, isV_field ha hv e2 hf, ht, e3, List.getElem?_eq_getElem hjk, .inr rfl⟩

def Sim (l : List Seal) (k : Nat) : Prop := ∀ (v u : Val) (a b x y : Ty) (s : ByteArray) (n : Int) (w : Val) (q : Nat) (s' : ByteArray) (n' : Int), v.Ok → v.right = true → u.right = true → isV l v a = true → isV l u x = true → Rf v u → a.right = true → b.right = true → Ls a x → Ls b y → v.dep < k → u.dep < q →
  castF l k v a b s n = .ok w → ∃ z, castF l q u x y s' n' = .ok z ∧ Nr w z
theorem reveal_sim (hl : ∀ s ∈ l, s.rep.right = true ∧ s.bound.right = true) (ho : ∀ s ∈ l, s.Ok) {k q : Nat} (ih : Sim l k) {v : Val} (ov : v.Ok) (rv : v.right = true) (hd : isV l v dynT = true) {b y : Ty} (rb : b.right = true) (hby : Ls b y) {s s' : ByteArray} {n n' : Int} {w : Val} (hk : v.dep < k + 1) (hq : v.dep < q + 1) (h : revealF (castF l k) l v b s n = .ok w) :
    ∃ z, revealF (castF l q) l v y s' n' = .ok z ∧ Nr w z := by
  unfold revealF at h ⊢
  cases hh : hid l v with
  | true => rw [hh] at h; cases h
  | false =>
    rw [hh, cond_false] at h
    rw [cond_false]
    obtain ⟨g1, g2, g3, _⟩ := hid_f hh
    obtain ⟨_, c, gc, hc⟩ := isV_seal_kid hd g1
    have hm := findT_mem g3
    have hso := ho _ hm
    have hsr := hl _ hm
    have hmem : c ∈ v.kids := by rw [gc]; exact List.mem_singleton.2 rfl
    have hc0 : v.kids.headD zeroV = c := by rw [gc]; rfl
    rw [hc0] at h ⊢
    have hdc := dep_kid (show eqd v.k 6 = false from by rw [g1]; exact eqdN (by decide)) hmem
    have oc := ov.kid hmem
    rw [castF_fuel ho q k c _ _ _ _ oc hso.rep hso.bound hso.df (by omega) (by omega)]
    have hkeep := castF_keeps hl k c (findT l v.n).1.rep (findT l v.n).1.bound (findT l v.n).1.df (findT l v.n).1.nd hc hsr.1 hsr.2
    cases hz : castF l k c (findT l v.n).1.rep (findT l v.n).1.bound (findT l v.n).1.df (findT l v.n).1.nd with
    | bl _ _ => rw [hz] at h; cases h
    | ok z =>
      rw [hz] at h hkeep
      rw [Got.bind_ok] at h ⊢
      have hkeep : isV l z (findT l v.n).1.bound = true := hkeep
      have gz := castF_good l ho k _ _ _ _ _ c.dep z hso.rep hso.bound hso.df ⟨oc, Nat.le_refl _⟩ hz
      have rz := castF_right hl k _ _ _ _ _ z (right_kid rv hmem) hsr.1 hsr.2 hz
      have hzd := gz.dep
      exact ih z z _ b _ y s n w q s' n' gz.ok rz rz hkeep hkeep (.same rfl) hsr.2 rb (Ls.refl _) hby (by omega) (by omega) h
theorem castF_sim (hl : ∀ s ∈ l, s.rep.right = true ∧ s.bound.right = true) (ho : ∀ s ∈ l, s.Ok) : ∀ k, Sim l k
  | 0 => fun v u a b x y s n w q s' n' _ _ _ _ _ _ _ _ _ _ h _ _ => by omega
  | k + 1 => fun v u a b x y s n w q s' n' ov rv ru hv hu hvu ra rb hax hby hd hq h => by
    have ih := castF_sim hl ho k
    obtain ⟨q, rfl⟩ : ∃ p, q = p + 1 := ⟨q - 1, by omega⟩
    have rx := hax.right ra
    have ry := hby.right rb
    have hw : isV l w b = true := by
      have := castF_keeps hl (k + 1) v a b s n hv ra rb
      rw [h] at this; exact this
    have nw : Nr w v := castF_near (k + 1) v a b s n w h
    have nu : Nr v u := hvu.near
    have viaU : castF l (q + 1) u x y s' n' = .ok u → ∃ z, castF l (q + 1) u x y s' n' = .ok z ∧ Nr w z := fun e => ⟨u, e, nw.trans nu⟩
    cases yl : y.loose with
    | true =>
      obtain ⟨z, hz, hr⟩ := castF_less (q + 1) u x y s' n' hu rx (.inr yl) hq
      exact ⟨z, hz, (nw.trans nu).trans hr.near⟩
    | false =>
    obtain ⟨bk, blab, blen, ball⟩ := hby.args yl
    have bl : b.loose = false := by have := loose_f yl; exact loose_of (by rw [bk]; exact this.1) (by rw [bk]; exact this.2)
    by_cases exy : x = y
    · refine viaU ?_
      rw [exy]; exact castF_same q u y s' n'
    have byd : y ≠ dynT := fun e => by rw [e, dynT_loose] at yl; cases yl
    by_cases u8 : u.k = 8
    · have evu : v = u := by
        cases hvu with
        | fn _ h => exact absurd u8 (fn_ne h).2
        | same e => exact e
        | rcd _ h _ _ _ => omega
      subst evu
      have sx : x.loose = true ∨ (x.k = 9 ∧ v.n = x.n) := by
        rcases isV_inv hu with h | h | ⟨_, h⟩ | ⟨_, h⟩ | ⟨h, _, h'⟩
        · exact .inl h
        · rcases h with ⟨_, h⟩ | ⟨_, h⟩ | ⟨_, h⟩ <;> omega
        · exact absurd u8 (fn_ne h).2
        · omega
        · exact .inr ⟨h, h'⟩
      have sa : a.loose = true ∨ (a.k = 9 ∧ v.n = a.n) := by
        rcases isV_inv hv with h | h | ⟨_, h⟩ | ⟨_, h⟩ | ⟨h, _, h'⟩
        · exact .inl h
        · rcases h with ⟨_, h⟩ | ⟨_, h⟩ | ⟨_, h⟩ <;> omega
        · exact absurd u8 (fn_ne h).2
        · omega
        · exact .inr ⟨h, h'⟩
      by_cases y9 : y.k = 9 ∧ y.n = v.n
      · rcases sx with sx | ⟨x9, xn⟩
        · refine viaU ?_
          rw [castF_from q v x y s' n' sx yl]
          unfold outF
          rw [u8, eqd_self, y9.1, y9.2, eqd_self, eqd_self]; rfl
        · exact absurd (plain_eq rx ry (by rw [x9, y9.1]) (by rw [x9]; decide) (by rw [x9]; decide) (by rw [x9]; decide) fun _ => by rw [← xn, y9.2]) exy
      · have b9 : ¬ (b.k = 9 ∧ b.n = v.n) := fun ⟨e1, e2⟩ => by
          rcases hby.leaf rb (by rw [e1]; decide) (by rw [e1]; decide) with e | e
          · exact byd e
          · rw [e] at e1 e2; exact y9 ⟨e1, e2⟩
        have hab : a ≠ b := fun e => by
          rw [e] at sa
          rcases sa with e | ⟨e1, e2⟩
          · rw [e] at bl; cases bl
          · exact b9 ⟨e1, e2.symm⟩
        rw [castF_reveal k v a b s n u8 sa hab bl b9] at h
        rw [castF_reveal q v x y s' n' u8 sx exy yl y9]
        exact reveal_sim hl ho ih ov rv (isV_known v a hv) rb hby hd hq h
    have v8 : v.k ≠ 8 := by
      cases hvu with
      | fn h _ => exact (fn_ne h).2
      | same e => rw [e]; exact u8
      | rcd h _ _ _ _ => rw [h]; decide
    have sv := strip_self v8
    have ufn : v.fn = true → u.fn = true := fun hf => by
      cases hvu with
      | fn _ h => exact h
      | same e => rw [← e]; exact hf
      | rcd h _ _ _ _ => exact absurd h (fn_ne hf).1
    rcases isV_inv hw with h' | hb | ⟨b7, wf⟩ | ⟨b8, w4⟩ | ⟨b9, _, _⟩
    · rw [h'] at bl; cases bl
    · -- a plain value
      have hw8 : w.k ≠ 8 := by rcases hb with ⟨_, e⟩ | ⟨_, e⟩ | ⟨_, e⟩ <;> rw [e] <;> decide
      have hwv : w = v := by
        cases nw with
        | fn h1 _ => rw [strip_self hw8] at h1; rcases fn_k h1 with e | e | e <;> (rcases hb with ⟨_, e'⟩ | ⟨_, e'⟩ | ⟨_, e'⟩ <;> omega)
        | leaf e _ => rw [strip_self hw8, sv] at e; exact e
        | rcd h1 _ _ _ _ => rw [strip_self hw8] at h1; rcases hb with ⟨_, e'⟩ | ⟨_, e'⟩ | ⟨_, e'⟩ <;> omega
      rw [hwv] at hb
      have hvu' : v = u := by
        cases hvu with
        | fn h1 _ => rcases fn_k h1 with e | e | e <;> (rcases hb with ⟨_, e'⟩ | ⟨_, e'⟩ | ⟨_, e'⟩ <;> omega)
        | same e => exact e
        | rcd h1 _ _ _ _ => rcases hb with ⟨_, e'⟩ | ⟨_, e'⟩ | ⟨_, e'⟩ <;> omega
      subst hvu'
      have hby' : Base y v := by
        rcases hb with ⟨e1, e2⟩ | ⟨e1, e2⟩ | ⟨e1, e2⟩
        · exact .inl ⟨by rw [← bk]; exact e1, e2⟩
        · exact .inr (.inl ⟨by rw [← bk]; exact e1, e2⟩)
        · exact .inr (.inr ⟨by rw [← bk]; exact e1, e2⟩)
      have hxx : x.loose = true := by
        rcases isV_inv hu with h | h | ⟨_, h⟩ | ⟨_, h⟩ | ⟨_, h, _⟩
        · exact h
        · exfalso
          have hk : x.k = y.k := by rcases h with ⟨e1, e2⟩ | ⟨e1, e2⟩ | ⟨e1, e2⟩ <;> rcases hby' with ⟨f1, f2⟩ | ⟨f1, f2⟩ | ⟨f1, f2⟩ <;> omega
          have hx : x.k = 1 ∨ x.k = 2 ∨ x.k = 3 := by rcases h with ⟨e1, _⟩ | ⟨e1, _⟩ | ⟨e1, _⟩ <;> omega
          exact exy (plain_eq rx ry hk (by omega) (by omega) (by omega) fun h => by omega)
        · rcases fn_k h with e | e | e <;> (rcases hby' with ⟨_, e'⟩ | ⟨_, e'⟩ | ⟨_, e'⟩ <;> omega)
        · rcases hby' with ⟨_, e'⟩ | ⟨_, e'⟩ | ⟨_, e'⟩ <;> omega
        · exact absurd h u8
      refine viaU ?_
      rw [castF_from q v x y s' n' hxx yl]
      unfold outF
      rw [eqdN u8, cond_false]
      rcases hby' with ⟨e1, e2⟩ | ⟨e1, e2⟩ | ⟨e1, e2⟩ <;> rw [e1, e2] <;> simp only [eqd_self, eqdN (show (2 : Int) ≠ 1 by decide), eqdN (show (3 : Int) ≠ 1 by decide), eqdN (show (3 : Int) ≠ 2 by decide), cond_true, cond_false]
    · -- a function
      have vf : v.fn = true := by
        cases nw with
        | fn _ h => rw [sv] at h; exact h
        | leaf e _ => rw [fn_strip wf, sv] at e; rw [← e]; exact wf
        | rcd h1 _ _ _ _ => rw [fn_strip wf] at h1; exact absurd h1 (fn_ne wf).1
      have uf := ufn vf
      have y7 : y.k = 7 := by rw [← bk]; exact b7
      have done : ∀ (c : Val) (t : Ty), c.fn = true → castF l (q + 1) u x y s' n' = wrapV c t y s' n' → ∃ z, castF l (q + 1) u x y s' n' = .ok z ∧ Nr w z := fun c t hc e => by
        obtain ⟨z, hz⟩ := wrapV_sure (a := t) (b := y) (s := s') (n := n') hc
        have zf := fn_cast hz
        exact ⟨z, by rw [e]; exact hz, .fn (by rw [fn_strip wf]; exact wf) (by rw [fn_strip zf]; exact zf)⟩
      rcases isV_inv hu with h | h | ⟨x7, _⟩ | ⟨_, h⟩ | ⟨_, h, _⟩
      · have kf : (knownV u).1.fn = true := by
          rcases knownV_cases u with e | ⟨h6, h2, _⟩
          · rw [e]; exact uf
          · obtain ⟨⟨c, hc, hcf⟩, _⟩ := right_cast ru h6
            rw [h2] at hc
            have : (knownV u).1 = c := by simpa using hc
            rw [this]; exact hcf
        refine done (knownV u).1 (knownV u).2 kf ?_
        rw [castF_from q u x y s' n' h yl]
        unfold outF
        rw [eqdN u8, y7, eqdN (show (7 : Int) ≠ 1 by decide), eqdN (show (7 : Int) ≠ 2 by decide), eqdN (show (7 : Int) ≠ 3 by decide), eqd_self]
        rfl
      · rcases fn_k uf with e | e | e <;> (rcases h with ⟨_, e'⟩ | ⟨_, e'⟩ | ⟨_, e'⟩ <;> omega)
      · exact done u x uf (castF_77 q u x y s' n' exy x7 y7)
      · exact absurd h (fn_ne uf).1
      · exact absurd h u8
    · -- a record
      have y8 : y.k = 8 := by rw [← bk]; exact b8
      obtain ⟨v4, _, wl, wn, hj⟩ := castF_recOk k v a b s n w hv ra rb b8 v8 hd h
      have u4 : u.k = 4 := by
        cases hvu with
        | fn h _ => exact absurd v4 (fn_ne h).1
        | same e => rw [← e]; exact v4
        | rcd _ h _ _ _ => exact h
      have hrb := right_rec rb b8
      have hry := right_rec ry y8
      have kidV : ∀ {c : ByteArray} {z : Val}, fieldV v c = some z → z.Ok ∧ z.right = true ∧ z.dep < k := fun {c z} h => by
        have hm := fieldV_mem h
        have := dep_kid (show eqd v.k 6 = false from by rw [v4]; exact eqdN (by decide)) hm.1
        exact ⟨ov.kid hm.1, right_kid rv hm.1, by omega⟩
      have kidU : ∀ {c : ByteArray} {z : Val}, fieldV u c = some z → z.right = true ∧ z.dep < q := fun {c z} h => by
        have hm := fieldV_mem h
        have := dep_kid (show eqd u.k 6 = false from by rw [u4]; exact eqdN (by decide)) hm.1
        exact ⟨right_kid ru hm.1, by omega⟩
      -- field by field, whatever each is cast from
      have each : ∀ g : Nat → Ty, (∀ j t z, j < b.labels.length → ((a.loose = true ∧ t = dynT) ∨ fieldT a (b.labels.getD j ByteArray.empty) = some t) → fieldV u (b.labels.getD j ByteArray.empty) = some z → t.right = true ∧ Ls t (g j) ∧ isV l z (g j) = true) →
          ∃ zs : List Val, zs.length = b.labels.length ∧ ∀ (j : Nat) (z : Val), zs[j]? = some z → ∃ c t w', fieldV u (b.labels.getD j ByteArray.empty) = some c ∧ y.args[j]? = some t ∧ castF l q c (g j) t s' n' = .ok z ∧ w.kids[j]? = some w' ∧ Nr w' z := by
        intro g hg
        refine list_choose _ b.labels.length fun j hjl => ?_
        obtain ⟨c, t, r, w', e1, e2, e3, e4, e5, e6⟩ := hj j hjl
        obtain ⟨d, d1, d2⟩ := hvu.field e1
        obtain ⟨rt, f1, f2⟩ := hg j t d hjl e6 d1
        have hjy : j < y.args.length := by have := (List.getElem?_eq_some_iff.1 e3).1; omega
        have hyj := List.getElem?_eq_getElem hjy
        obtain ⟨c1, c2, c3⟩ := kidV e1
        obtain ⟨d3, d4⟩ := kidU d1
        obtain ⟨z, z1, z2⟩ := ih c d t r (g j) y.args[j] s n w' q s' n' c1 c2 d3 e2 f2 d2 rt (right_arg rb (List.mem_of_getElem? e3)) f1 (ball j r _ e3 hyj) c3 d4 e4
        exact ⟨z, d, _, w', d1, hyj, z1, e5, z2⟩
      have fin : ∀ zs : List Val, zs.length = b.labels.length → (∀ (j : Nat) (z : Val), zs[j]? = some z → ∃ w', w.kids[j]? = some w' ∧ Nr w' z) → Nr w (recV y.labels zs) := by
        intro zs zl zp
        have hs : (recV y.labels zs).strip = recV y.labels zs := k4_strip rfl
        refine Nr.of (by rw [k4_strip w4]; exact w4) (by rw [hs]; rfl) fun c p hp => ?_
        rw [k4_strip w4] at hp
        rw [hs]
        obtain ⟨i, i1, i2⟩ := field_ix hp
        have hi : i < zs.length := by have := (List.getElem?_eq_some_iff.1 i2).1; omega
        obtain ⟨w', g1, g2⟩ := zp i _ (List.getElem?_eq_getElem hi)
        rw [i2] at g1
        refine ⟨zs[i], ix_field rfl (show ix y.labels c = some i from by rw [← blab, ← wl]; exact i1) (List.getElem?_eq_getElem hi), ?_⟩
        rw [Option.some.inj g1]; exact g2
      rcases isV_inv hu with hx | hx | ⟨_, hx⟩ | ⟨x8, _⟩ | ⟨_, hx, _⟩
      · obtain ⟨zs, zl, zp⟩ := each (fun _ => dynT) fun j t z hjl ht hz => by
          refine ⟨?_, .dyn rfl, isV_fieldD (isV_known u x hu) hz⟩
          rcases ht with ⟨_, e⟩ | e
          · rw [e]; exact dynT_fit.right
          · exact right_arg ra (fieldT_mem e).1
        refine ⟨recV y.labels zs, ?_, fin zs zl fun j z hz => by obtain ⟨_, _, w', _, _, _, e4, e5⟩ := zp j z hz; exact ⟨w', e4, e5⟩⟩
        rw [castF_from q u x y s' n' hx yl]
        unfold outF
        rw [eqdN u8, y8, eqdN (show (8 : Int) ≠ 1 by decide), eqdN (show (8 : Int) ≠ 2 by decide), eqdN (show (8 : Int) ≠ 3 by decide), eqdN (show (8 : Int) ≠ 7 by decide), eqd_self]
        simp only [cond_true, cond_false]
        refine fieldsF_all u4 (by rw [← blab]; exact zl) fun j z hz => ?_
        obtain ⟨c, t, w', e1, e2, e3, _, _⟩ := zp j z hz
        refine ⟨c, by rw [← blab]; exact e1, ?_⟩
        show (match y.args[j]? with | some t => _ | none => _) = _
        rw [e2]; exact e3
      · rcases hx with ⟨_, e⟩ | ⟨_, e⟩ | ⟨_, e⟩ <;> omega
      · exact absurd u4 (fn_ne hx).1
      · have hxl : x.loose = false := loose_of (by rw [x8]; decide) (by rw [x8]; decide)
        obtain ⟨ak, alab, alen, aall⟩ := hax.args hxl
        have a8 : a.k = 8 := by rw [ak]; exact x8
        have hal : a.loose = false := loose_of (by rw [a8]; decide) (by rw [a8]; decide)
        have fx : ∀ {c : ByteArray} {t : Ty}, fieldT a c = some t → ∃ r, fieldT x c = some r ∧ Ls t r := fun {c t} h => by
          unfold fieldT at h ⊢
          rw [a8, eqd_self, cond_true, Option.bind_eq_some_iff] at h
          obtain ⟨i, i1, i2⟩ := h
          have hi : i < x.args.length := by have := (List.getElem?_eq_some_iff.1 i2).1; omega
          have hxi := List.getElem?_eq_getElem hi
          rw [x8, eqd_self, cond_true, ← alab, i1]
          exact ⟨_, hxi, aall i t _ i2 hxi⟩
        obtain ⟨zs, zl, zp⟩ := each (fun j => (fieldT x (b.labels.getD j ByteArray.empty)).getD zeroT) fun j t z hjl ht hz => by
          rcases ht with ⟨e, _⟩ | e
          · rw [e] at hal; cases hal
          · obtain ⟨r, r1, r2⟩ := fx e
            rw [r1]
            exact ⟨right_arg ra (fieldT_mem e).1, r2, isV_field x8 hu hz r1⟩
        refine ⟨recV y.labels zs, ?_, fin zs zl fun j z hz => by obtain ⟨_, _, w', _, _, _, e4, e5⟩ := zp j z hz; exact ⟨w', e4, e5⟩⟩
        rw [castF_88 q u x y s' n' exy x8 y8]
        unfold recsF
        refine fieldsF_all u4 (by rw [← blab]; exact zl) fun j z hz => ?_
        obtain ⟨c, t, w', e1, e2, e3, _, _⟩ := zp j z hz
        have hjl : j < b.labels.length := by have := (List.getElem?_eq_some_iff.1 hz).1; omega
        obtain ⟨_, t', _, _, _, _, _, _, _, g6⟩ := hj j hjl
        rcases g6 with ⟨e, _⟩ | g6
        · rw [e] at hal; cases hal
        obtain ⟨r, r1, _⟩ := fx g6
        refine ⟨c, by rw [← blab]; exact e1, ?_⟩
        rw [r1] at e3
        rw [← blab, r1]
        show (match y.args[j]? with | some u => _ | none => _) = _
        rw [e2]; exact e3
      · exact absurd hx u8
    · exact absurd (castF_seal k v a b s n w hv b9 h) v8
end
end Go.Sh.T

/- The law CastLess. -/
namespace Go.Sh.T
open Go Go.Sh
set_option linter.unusedSimpArgs false
set_option linter.unusedVariables false
set_option maxRecDepth 100000

theorem castLess_row (l : List Seal) (hl : l.length ≤ maxLen) (ol : ∀ s ∈ l, s.Ok) (v : Val) (ov : v.Ok) (a : Ty) (oa : a.Ok) (b : Ty) (ob : b.Ok) (x : Ty) (ox : x.Ok) (y : Ty) (oy : y.Ok)
    (vl : ∀ s ∈ l, s.rep.vol ≤ 1048576 ∧ s.bound.vol ≤ 1048576) (va : a.vol ≤ 1048576) (vb : b.vol ≤ 1048576) (vx : x.vol ≤ 1048576) (vy : y.vol ≤ 1048576) (_ : List Nat) : evw E 14 [.sl 12 (l.map Seal.cells), .agg v.cells, .agg a.cells, .agg b.cells, .agg x.cells, .agg y.cells] [] = some (.ret (.lit (.bool true)), []) := by
  refine evw_run primsC 0 rfl rfl rfl ?_
  rw [nf14]
  have hsm := small56 l hl ol v ov [a, b, x, y] (show 4 ≤ maxLen by decide) (fun t ht => by
    simp only [List.mem_cons, List.not_mem_nil, or_false] at ht
    rcases ht with e | e | e | e <;> rw [e] <;> assumption) []
  rw [show [a, b, x, y].map Ty.cells = [a.cells, b.cells, x.cells, y.cells] from rfl] at hsm
  obtain ⟨c, hc1, hc2⟩ := less70 _ a x [] (Nat.lt_succ_self _) oa ox
  obtain ⟨d, hd1, hd2⟩ := less70 _ b y [] (Nat.lt_succ_self _) ob oy
  simp only [aggS, bind_some', Val.cells_len, Ty.cells_len, b10, b5, condT, Val.re, Ty.refold, hsm, onOut_ret, notB, boolB, awake58, right28_spec l hl ol, right65 v _ ov, is66 l ol v a _ ov oa, right_spec a _ oa, right_spec b _ ob, hc1, hd1]
  cases smallB l v [a, b, x, y] with
  | false => rfl
  | true =>
  cases ht : right28 l with
  | false => rfl
  | true =>
  cases hr : v.right with
  | false => rfl
  | true =>
  cases hi : isV l v a with
  | false => rfl
  | true =>
  cases ha : a.right with
  | false => rfl
  | true =>
  cases hb : b.right with
  | false => rfl
  | true =>
  cases c with
  | false => rfl
  | true =>
  cases d with
  | false => rfl
  | true =>
  have hax := hc2 rfl
  have hby := hd2 rfl
  have rx := hax.right ha
  have ry := hby.right hb
  simp only [Bool.not_true, condF]
  have hfl := right28_fit ol vl ht
  have fa : Fit a := ⟨oa, ha, va⟩
  have fb : Fit b := ⟨ob, hb, vb⟩
  have fx : Fit x := ⟨ox, rx, vx⟩
  have fy : Fit y := ⟨oy, ry, vy⟩
  have os : ByteArray.size ⟨#[102]⟩ ≤ maxLen := by decide
  have hso : ∀ s ∈ l, s.Ok := fun s hs => (hfl s hs).1
  have d1 := do59 l hfl v a b ⟨#[102]⟩ 1 [] ov fa fb os
  have d2 := do59 l hfl v a x ⟨#[102]⟩ 2 [] ov fa fx os
  unfold castV at d1 d2
  obtain ⟨u, hu, hvu⟩ := castF_less (l := l) (v.dep + 1) v a x ⟨#[102]⟩ 2 hi ha (.inl hax) (Nat.lt_succ_self _)
  have ou : u.Ok := (castF_good l hso (v.dep + 1) v a x ⟨#[102]⟩ 2 v.dep u oa ox os ⟨ov, Nat.le_refl _⟩ hu).ok
  have ru := castF_right (right28_of ht) (v.dep + 1) v a x _ _ u hr ha rx hu
  have iu : isV l u x = true := by
    have := castF_keeps (right28_of ht) (v.dep + 1) v a x ⟨#[102]⟩ 2 hi ha rx
    rw [hu] at this; exact this
  rw [hu] at d2
  unfold labA at d1 d2
  cases hw : castF l (v.dep + 1) v a b ⟨#[102]⟩ 1 with
  | bl p q =>
    rw [hw] at d1
    simp only [d1, d2, onOut_ret, Got.tup3, labA, tupS, bind_some', t30, t31, t32, aggS, Val.cells_len, b10, b2, condT, boolB, notB, Bool.not_true, Bool.not_false, condF, awake58]
  | ok w =>
    rw [hw] at d1
    obtain ⟨z, hz, hn⟩ := castF_sim (right28_of ht) hso (v.dep + 1) v u a b x y ⟨#[102]⟩ 1 w (u.dep + 1) ⟨#[102]⟩ 3 ov hr ru hi iu hvu ha hb hax hby (Nat.lt_succ_self _) (Nat.lt_succ_self _) hw
    have d3 := do59 l hfl u x y ⟨#[102]⟩ 3 [] ou fx fy os
    unfold castV at d3
    rw [hz] at d3
    unfold labA at d3
    have ow : w.Ok := (castF_good l hso (v.dep + 1) v a b ⟨#[102]⟩ 1 v.dep w oa ob os ⟨ov, Nat.le_refl _⟩ hw).ok
    have oz : z.Ok := (castF_good l hso (u.dep + 1) u x y ⟨#[102]⟩ 3 u.dep z ox oy os ⟨ou, Nat.le_refl _⟩ hz).ok
    have rw' := castF_right (right28_of ht) (v.dep + 1) v a b _ _ w hr ha hb hw
    have h71 := near71 _ w z [] (Nat.lt_succ_self _) ow oz rw' hn
    simp only [d1, d2, onOut_ret, Got.tup3, labA, tupS, bind_some', t30, t31, t32, aggS, Val.cells_len, b10, b2, condT, boolB, notB, Bool.not_true, condF, Val.re]
    simp only [d3, onOut_ret, Got.tup3, labA, tupS, bind_some', t30, t31, t32, aggS, Val.cells_len, b10, b2, condT, boolB, Val.re, h71, awake58]
end Go.Sh.T
