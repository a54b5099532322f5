/- SgF: part of the proof: a shadow of the machine that is proved sound, and what the functions of this seat compute. Conditions: none. -/
import Derived.Test.YtlaooocfbjlghaaGreatSgE
import Derived.Test.YtlaooocfbjlghaaGreatSgU
import Derived.Test.YtlaooocfbjlghaaGreatShB
import Derived.Test.YtlaooocfbjlghaaGreatRows
set_option linter.unusedSimpArgs false
/- subst and the document's layer 7: what each function computes. -/
namespace Go.Sh.T
open Go Go.Sh
set_option linter.unusedSimpArgs false
set_option linter.unusedVariables false
set_option maxRecDepth 100000

theorem nilT_cells : nilT.cells = [.lit (.int .i64 0), .lit (.int .i64 0), .lit (.string ByteArray.empty), .sl 1 [], .sl 5 []] := by rw [Ty.cells_eq]; rfl
theorem nilT_ok : nilT.Ok := .mk (show (Lit.int .i64 0).wf = true by decide) (show (Lit.int .i64 0).wf = true by decide) (Nat.zero_le _) (Nat.zero_le _) (fun _ h => by cases h) (Nat.zero_le _) (fun _ h => by cases h)
theorem lt_tup2 (n : Nat) (t : Ty) (b : Bool) : Out.lt n (.ret (.tup [.agg t.cells, .lit (.bool b)])) := by
  show AV.lt n _
  refine .tup fun a ha => ?_
  simp only [List.mem_cons, List.not_mem_nil, or_false] at ha
  rcases ha with rfl | rfl
  · exact .agg (Ty.cells_lt n t)
  · exact .lit _

/- the first of a name -/
def idxP (P : Bind → Bool) : List Bind → Int → Int
  | [], _ => -1
  | b :: r, i => bif P b then i else idxP P r (i + 1)
theorem index55 (P : Bind → Bool) (fv : AV) (H : Heap) (l : List Bind) (hl : l.length ≤ maxLen) (hc : ∀ a ∈ l, applyV (evw E) fv [.agg a.cells] H = some (.ret (.lit (.bool (P a))), H)) : evw E 55 [.sl 6 (l.map Bind.cells), fv] H = some (.ret (.lit (.int .i64 (idxP P l 0))), H) := by
  have hl : l.length ≤ 9223372036854775807 := hl
  have loop : ∀ (m i : Nat), i ≤ l.length → l.length < m + i → Lp55_0 (evw E) (l.length + 1) H m H (.sl 6 (l.map Bind.cells)) fv (.lit (.int .i64 (l.length : Int))) (.lit (.int .i64 (i : Int))) = some (.ret (.lit (.int .i64 (idxP P (l.drop i) i))), H) := by
    intro m
    induction m with
    | zero => intro i h1 h2; omega
    | succ m ih =>
      intro i h1 h2
      rw [Lp55_0_succ, bin_int, lssI, bind_some', boolB, bind_some']
      by_cases hi : i < l.length
      · rw [ltT hi, condT, indexA_map _ _ _ _ hi, bind_some', partA_full (Bind.len _), bind_some', hc _ (List.getElem_mem hi), onOut_ret, boolB, bind_some', List.drop_eq_getElem_cons hi, idxP]
        cases P l[i] with
        | true => rfl
        | false => rw [condF, condF, bin_int, addI, bind_some', incI (by omega)]; exact ih (i + 1) hi (by omega)
      · rw [ltF hi, condF, List.drop_of_length_le (by omega)]; rfl
  refine evw_run primsC (l.length + 1) rfl rfl rfl ?_
  rw [nf55, lenA22, bind_some', List.length_map]
  exact loop (l.length + 1) 0 (Nat.zero_le _) (by omega)
theorem idxP_find (s : ByteArray) : ∀ (l : List Bind) (k : Int), 0 ≤ k → (findB l s = none ∧ idxP (fun b => strEq b.name s) l k = -1) ∨ ∃ (i : Nat) (h : i < l.length), idxP (fun b => strEq b.name s) l k = k + i ∧ findB l s = some (l[i]).ty
  | [], k, hk => .inl ⟨rfl, rfl⟩
  | b :: r, k, hk => by
    rw [findB, idxP]
    cases he : strEq b.name s with
    | true => exact .inr ⟨0, by simp, by simp, rfl⟩
    | false =>
      rw [cond_false, cond_false]
      rcases idxP_find s r (k + 1) (by omega) with ⟨h1, h2⟩ | ⟨i, hi, h1, h2⟩
      · exact .inl ⟨h1, h2⟩
      · exact .inr ⟨i + 1, by simpa using hi, by rw [h1]; omega, by rw [h2]; rfl⟩

/- bindings are put in -/
noncomputable def putF (m : List Bind) (t : Ty) : Option Ty := bif eqd t.k 6 then findB m t.name else none
theorem put54 (m : List Bind) (hm : m.length ≤ maxLen) (om : ∀ b ∈ m, b.Ok) (t : Ty) (h : Heap) (j : Nat) (hj : ∀ z, hpart false 1 0 j (h ++ z) = some (.sl 6 (m.map Bind.cells))) :
    evw E 54 [.agg t.cells, .hp j 0] h = some (.ret (.tup [.agg ((putF m t).getD nilT).cells, .lit (.bool (putF m t).isSome)]), h) := by
  have hm' : m.length ≤ 9223372036854775807 := hm
  have hi := index55 (fun b => strEq b.name t.name) (.fn 56 [] [.hp h.length 0]) (h ++ [t.cells.map .v]) m hm fun b hb => by
    rw [applyS]
    show evw E 56 [.agg b.cells, .hp h.length 0] _ = _
    refine evw_run primsC 0 rfl rfl rfl ?_
    rw [nf56, aggS, bind_some', Bind.len, b6, condT, Bind.n0, hpart_app0, Ty.cells_eq]
    show (some (AV.lit (.string t.name))).bind _ = _
    rw [bind_some', eqS, bind_some']
  refine evw_run primsC 0 rfl rfl rfl ?_
  have hc : [Cell.v (t.cells.getD 0 .dead), .v (t.cells.getD 1 .dead), .v (t.cells.getD 2 .dead), .v (t.cells.getD 3 .dead), .v (t.cells.getD 4 .dead)] = t.cells.map .v := by rw [Ty.cells_eq]; rfl
  have h0 : hpart false 1 0 h.length (h ++ [t.cells.map .v]) = some (.lit (.int .i64 t.k)) := by rw [hpart_app0, Ty.cells_eq]; rfl
  rw [nf54, aggS, bind_some', Ty.cells_len, b5, condT, hc, hj, bind_some', hi, onOut_ret, h0, bind_some', bin_int, neqE, bind_some', boolB, bind_some', ← nilT_cells, trunc_app (H := E.hint 54) (by kernel_rfl) (lt_tup2 _ _ _)]
  unfold putF
  cases eqd t.k 6 with
  | false => rfl
  | true =>
    rw [Bool.not_true, condF, cond_true, bin_int, lssI, bind_some', boolB, bind_some']
    rcases idxP_find t.name m 0 (by omega) with ⟨h1, h2⟩ | ⟨i, hi', h1, h2⟩
    · rw [h1, h2]; rfl
    · rw [h1, h2, Int.zero_add, decide_eq_false (by omega : ¬ ((i : Int) < 0)), condF, hj, bind_some', indexA_map _ _ _ _ hi', bind_some', Bind.len, show Nat.ble 1 6 = true from rfl, condT, Bind.p1, bind_some', aggS, bind_some', Ty.cells_len, b5, condT, Ty.refold, trunc_app (H := E.hint 54) (by kernel_rfl) (lt_tup2 _ _ _)]
      rfl

/- counted as it goes -/
theorem sub_in {x y : Int} (h1 : -9000000000000 ≤ x - y) (h2 : x - y ≤ 9000000000000) : sub64 x y = x - y := by unfold sub64; exact IntWalk.i64_in _ (by omega)
section
variable (f : Ty → Option Ty) (fv : AV) (hs z : Heap)
abbrev WW (L : Int) : Heap := hs ++ ([.v fv, .v (.lit (.int .i64 L))] :: z)
theorem WW1 (L : Int) : hpart false 1 1 hs.length (WW fv hs z L) = some (.lit (.int .i64 L)) := by rw [hpart_app0]; rfl
theorem WW0 (h1 : AV.one fv = true) (L : Int) : hpart false 1 0 hs.length (WW fv hs z L) = some fv := by
  rw [hpart_app0]
  show partA false 1 0 ([Cell.v fv, .v (.lit (.int .i64 L))].map Cell.get) = _
  rfl
theorem WWs (L M : Int) : hstore (WW fv hs z L) hs.length 1 [.v (.lit (.int .i64 M))] = some (WW fv hs z M) := by rw [hstore_app0]; rfl
theorem over81 (h1' : AV.one fv = true) (hf : ∀ (x : Ty), x.Ok → ∀ L, applyV (evw E) fv [.agg x.cells] (WW fv hs z L) = some (.ret (.tup [.agg ((f x).getD nilT).cells, .lit (.bool (f x).isSome)]), WW fv hs z L))
    (hu : ∀ x u, f x = some u → u.Ok ∧ u.pre.length ≤ 1048576) : ∀ (t : Ty) (L : Int), t.Ok → t.pre.length ≤ 1048576 → L ≤ 300 → evw E 81 [.hp hs.length 0, .agg t.cells] (WW fv hs z L) = some (.ret (.agg (t.over f L).1.cells), WW fv hs z (t.over f L).2)
  | t, L, ok, hv, hL => by
    have hlen : t.args.length ≤ 9223372036854775807 := ok.len
    have hpe : t.pre = t :: Ty.preL t.args := by cases t; rw [Ty.pre]
    rw [hpe, List.length_cons] at hv
    have hal : t.args.length ≤ (Ty.preL t.args).length := by
      have key : ∀ l : List Ty, l.length ≤ (Ty.preL l).length := by
        intro l
        induction l with
        | nil => exact Nat.zero_le _
        | cons x r ih => rw [Ty.preL, List.length_append, List.length_cons]; have : 1 ≤ x.pre.length := by cases x; rw [Ty.pre, List.length_cons]; omega
                         omega
      exact key _
    have loop : ∀ (H0 : Heap) (x0 x1 x2 : AV) (z1 z2 : List (List AV)) (x3 x4 x5 x6 : AV) (q i : Nat) (acc : List Ty) (L : Int), i ≤ t.args.length → t.args.length < q + i → acc.length + (t.args.length - i) ≤ 1048576 → L ≤ 300 →
        Lp81_0 (evw E) (t.args.length + 1) H0 q (WW fv hs z L) hs.length x0 x1 x2 z1 z2 x3 x4 x5 x6 (acc.map Ty.cells) (.sl 5 (t.args.map Ty.cells)) (.lit (.int .i64 (t.args.length : Int))) (.lit (.int .i64 (i : Int))) = some (.ret (.agg [x3, x4, x5, x6, .sl 5 ((acc ++ (Ty.overL f (t.args.drop i) L).1).map Ty.cells)]), WW fv hs z (Ty.overL f (t.args.drop i) L).2) := by
      intro H0 x0 x1 x2 z1 z2 x3 x4 x5 x6 q
      induction q with
      | zero => intro i acc L h1 h2; omega
      | succ q ih =>
        intro i acc L h1 h2 h3 h4
        rw [Lp81_0_succ, bin_int, lssI, bind_some', boolB, bind_some']
        by_cases hi : i < t.args.length
        · have hm := List.getElem_mem hi
          have hrec := over81 h1' hf hu (t.args[i]) L (ok.arg hm) (by have := Ty.preL_mem t.args _ hm; omega) h4
          have hle := Ty.over_le f (t.args[i]) L
          rw [ltT hi, condT, indexA_map _ _ _ _ hi, bind_some', partA_full (Ty.cells_len _), bind_some', aggS, bind_some', Ty.cells_len, b5, condT, Ty.refold, hrec, onOut_ret, aggS, bind_some', Ty.cells_len, b5, condT, List.length_map, bleA (by simp; omega), condT, bin_int, addI, bind_some', incI (by omega), Ty.refold, tyL_snoc, ih (i + 1) _ _ hi (by omega) (by simp; omega) (by omega), List.drop_eq_getElem_cons hi, Ty.overL, List.append_assoc]
          rfl
        · rw [ltF hi, condF, List.drop_of_length_le (by omega), Ty.overL, List.append_nil]
    refine evw_run primsC (t.args.length + 1) rfl rfl rfl ?_
    rw [nf81, aggS, bind_some', Ty.cells_len, b5, condT, WW1, bind_some', bin_int, lssI, bind_some', boolB, bind_some', Ty.over_eq]
    cases hd : decide (L < 0) with
    | true => rw [condT, cond_true, ← nilT_cells]
    | false =>
      have hd' := of_decide_eq_false hd
      rw [condF, cond_false, WW0 fv hs z h1', bind_some', Ty.refold, hf t ok, onOut_ret, tupS, bind_some', t20, bind_some', bind_some', t21, bind_some', aggS, bind_some', Ty.cells_len, b5, condT, boolB, bind_some']
      cases hft : f t with
      | some u =>
        obtain ⟨ou, hpu⟩ := hu t u hft
        rw [Option.isSome_some, condT, Option.getD_some, WW1, bind_some', Ty.refold, nodes45 u ou hpu, onOut_ret]
        unfold sameH
        rw [if_pos rfl, bin_int, subI, bind_some', show AV.one (.lit (.int .i64 (sub64 L u.nodes))) = true from rfl, condT, WWs, bind_some', Ty.nodes_pre u (by omega), sub_in (by omega) (by omega)]
      | none =>
        rw [Option.isSome_none, condF, WW1, bind_some', bin_int, subI, bind_some', show AV.one (.lit (.int .i64 (sub64 L 1))) = true from rfl, condT, WWs, bind_some', sub_in (by omega) (by omega), Ty.c0, Ty.c1, Ty.c2, Ty.c3, Ty.c4, lenA24, bind_some', List.length_map]
        have := loop (WW fv hs z L) (.lit (.int .i64 0)) (.lit (.int .i64 0)) (.lit (.string ByteArray.empty)) [] [] (.lit (.int .i64 t.k)) (.lit (.int .i64 t.n)) (.lit (.string t.name)) (.sl 1 (t.labels.map strC)) (t.args.length + 1) 0 [] (L - 1) (Nat.zero_le _) (by omega) (by simp; omega) (by omega)
        rw [List.drop_zero] at this
        refine Eq.trans this ?_
        rw [Ty.cells_eq]; rfl
  termination_by t => SizeOf.sizeOf t
  decreasing_by exact Ty.size_arg hi
end
end Go.Sh.T

/- subst.Put, All, Seal; the document's Plain, Put, All, Seal. -/
namespace Go.Sh.T
open Go Go.Sh
set_option linter.unusedSimpArgs false
set_option linter.unusedVariables false
set_option maxRecDepth 100000

theorem done53 (f : Ty → Option Ty) (fv : AV) (h1' : AV.one fv = true) (h : Heap) (hf : ∀ (x : Ty), x.Ok → ∀ L, applyV (evw E) fv [.agg x.cells] (WW fv h [] L) = some (.ret (.tup [.agg ((f x).getD nilT).cells, .lit (.bool (f x).isSome)]), WW fv h [] L))
    (hu : ∀ x u, f x = some u → u.Ok ∧ u.pre.length ≤ 1048576) (t : Ty) (ok : t.Ok) (hv : t.pre.length ≤ 1048576) : evw E 53 [.agg t.cells, fv] h = some (.ret (.tup [.agg ((t.put f).fit.getD nilT).cells, .lit (.bool (t.put f).fit.isSome)]), h) := by
  refine evw_run primsC 0 rfl rfl rfl ?_
  have ho := over81 f fv h [] h1' hf hu t 300 ok hv (by omega)
  have hW : h ++ ([[.v fv, .v (.lit (.int .i64 300))]] : Heap) = WW fv h [] 300 := rfl
  rw [nf53, aggS, bind_some', Ty.cells_len, b5, condT, h1', condT, Ty.refold, hW, ho, onOut_ret, aggS, bind_some', Ty.cells_len, b5, condT, WW1, bind_some', bin_int, lssI, bind_some', boolB, bind_some', Ty.refold, ← nilT_cells, ← Ty.over_fit]
  cases decide ((t.over f 300).2 < 0) with
  | true => rw [condT, trunc_app (H := E.hint 53) (by kernel_rfl) (lt_tup2 _ _ _)]; rfl
  | false => rw [condF, trunc_app (H := E.hint 53) (by kernel_rfl) (lt_tup2 _ _ _)]; rfl

/-- The bindings' types, not too many. -/
structure Small (m : List Bind) : Prop where
  len : m.length ≤ 1048576
  ok : ∀ b ∈ m, b.Ok
  pre : ∀ b ∈ m, b.ty.pre.length ≤ 1048576
theorem Small.put {m : List Bind} (s : Small m) : ∀ x u, putF m x = some u → u.Ok ∧ u.pre.length ≤ 1048576 := fun x u h => by
  unfold putF at h
  cases hk : eqd x.k 6 with
  | false => rw [hk] at h; cases h
  | true =>
    rw [hk, cond_true] at h
    obtain ⟨b, hb, e⟩ := findB_mem h
    rw [← e]
    exact ⟨(s.ok b hb).ty, s.pre b hb⟩
noncomputable def fitP (m : List Bind) (t : Ty) : Option Ty := (t.put (putF m)).fit
theorem put30 (m : List Bind) (s : Small m) (t : Ty) (ok : t.Ok) (hv : t.pre.length ≤ 1048576) (h : Heap) : evw E 30 [.agg t.cells, .sl 6 (m.map Bind.cells)] h = some (.ret (.tup [.agg ((fitP m t).getD nilT).cells, .lit (.bool (fitP m t).isSome)]), h) := by
  have hm : m.length ≤ maxLen := Nat.le_trans s.len (by decide)
  refine evw_run primsC 0 rfl rfl rfl ?_
  have hd := done53 (putF m) (.fn 54 [] [.hp h.length 0]) rfl (h ++ [[.v (.sl 6 (m.map Bind.cells))]]) (fun x ox L => by
    rw [applyS]
    exact put54 m hm s.ok x _ h.length fun z => by
      show hpart false 1 0 h.length (((h ++ [[.v (.sl 6 (m.map Bind.cells))]]) ++ _) ++ z) = _
      rw [List.append_assoc, List.append_assoc, hpart_app0]; rfl) s.put t ok hv
  rw [nf30, aggS, bind_some', Ty.cells_len, b5, condT, show AV.one (.sl 6 (m.map Bind.cells)) = true from rfl, condT, Ty.refold, hd, onOut_ret, tupS, bind_some', t20, bind_some', bind_some', t21, bind_some', aggS, bind_some', Ty.cells_len, b5, condT, Ty.refold, trunc_app (H := E.hint 30) (by kernel_rfl) (lt_tup2 _ _ _)]
  rfl
noncomputable def allP (m : List Bind) : List Ty → Option (List Ty)
  | [] => some []
  | t :: r => match fitP m t with
    | none => none
    | some u => (allP m r).map (u :: ·)
theorem all28 (m : List Bind) (s : Small m) (l : List Ty) (hl : l.length ≤ 1048576) (ol : ∀ t ∈ l, t.Ok) (hv : ∀ t ∈ l, t.pre.length ≤ 1048576) (h : Heap) : evw E 28 [.sl 5 (l.map Ty.cells), .sl 6 (m.map Bind.cells)] h = some (.ret (.tup [.sl 5 (((allP m l).getD []).map Ty.cells), .lit (.bool (allP m l).isSome)]), h) := by
  have loop : ∀ (q i : Nat) (acc : List Ty), i ≤ l.length → l.length < q + i → acc.length + (l.length - i) ≤ 1048576 → Lp28_0 (evw E) (l.length + 1) h q h (.sl 6 (m.map Bind.cells)) (acc.map Ty.cells) (.sl 5 (l.map Ty.cells)) (.lit (.int .i64 (l.length : Int))) (.lit (.int .i64 (i : Int))) = some (.ret (.tup [.sl 5 ((((allP m (l.drop i)).map (acc ++ ·)).getD []).map Ty.cells), .lit (.bool (allP m (l.drop i)).isSome)]), h) := by
    intro q
    induction q with
    | zero => intro i acc h1 h2; omega
    | succ q ih =>
      intro i acc h1 h2 h3
      rw [Lp28_0_succ, bin_int, lssI, bind_some', boolB, bind_some']
      by_cases hi : i < l.length
      · have hm := List.getElem_mem hi
        rw [ltT hi, condT, indexA_map _ _ _ _ hi, bind_some', partA_full (Ty.cells_len _), bind_some', aggS, bind_some', Ty.cells_len, b5, condT, Ty.refold, put30 m s _ (ol _ hm) (hv _ hm), onOut_ret, tupS, bind_some', t20, bind_some', bind_some', t21, bind_some', aggS, bind_some', Ty.cells_len, b5, condT, notB, bind_some', boolB, bind_some', List.drop_eq_getElem_cons hi, allP]
        cases fitP m l[i] with
        | none => rfl
        | some u =>
          rw [Option.isSome_some, Bool.not_true, condF, Option.getD_some, List.length_map, bleA (by simp; omega), condT, bin_int, addI, bind_some', incI (by omega), Ty.refold, tyL_snoc, ih (i + 1) _ hi (by omega) (by simp; omega)]
          cases allP m (l.drop (i + 1)) with
          | none => rfl
          | some r => simp
      · rw [ltF hi, condF, List.drop_of_length_le (by omega), allP]; simp
  refine evw_run primsC (l.length + 1) rfl rfl rfl ?_
  rw [nf28, lenA24, bind_some', List.length_map]
  have := loop (l.length + 1) 0 [] (Nat.zero_le _) (by omega) (by simp; omega)
  rw [List.drop_zero] at this
  refine Eq.trans this ?_
  cases allP m l <;> rfl

/- the document's -/
theorem preL_len (l : List Ty) : l.length ≤ (Ty.preL l).length := by
  induction l with
  | nil => exact Nat.zero_le _
  | cons x r ih =>
    rw [Ty.preL, List.length_append, List.length_cons]
    have : 1 ≤ x.pre.length := by cases x; rw [Ty.pre, List.length_cons]; omega
    omega
end Go.Sh.T

/- The document's Put and All; Seal. -/
namespace Go.Sh.T
open Go Go.Sh
set_option linter.unusedSimpArgs false
set_option linter.unusedVariables false
set_option maxRecDepth 100000

mutual
theorem Ty.put_len (f : Ty → Option Ty) (M : Nat) (h1 : 1 ≤ M) (hu : ∀ x u, f x = some u → u.pre.length ≤ M) : ∀ t : Ty, (t.put f).pre.length ≤ t.pre.length * M
  | ⟨k, n, s, ls, xs⟩ => by
    rw [Ty.put, Ty.pre, List.length_cons, Nat.add_mul, Nat.one_mul]
    cases hf : f ⟨k, n, s, ls, xs⟩ with
    | some u => have := hu _ _ hf; show u.pre.length ≤ _; omega
    | none =>
      have := Ty.putL_len f M h1 hu xs
      show (Ty.pre ⟨k, n, s, ls, Ty.putL f xs⟩).length ≤ _
      rw [Ty.pre, List.length_cons]; omega
theorem Ty.putL_len (f : Ty → Option Ty) (M : Nat) (h1 : 1 ≤ M) (hu : ∀ x u, f x = some u → u.pre.length ≤ M) : ∀ l : List Ty, (Ty.preL (Ty.putL f l)).length ≤ (Ty.preL l).length * M
  | [] => Nat.zero_le _
  | t :: r => by
    have a := Ty.put_len f M h1 hu t; have b := Ty.putL_len f M h1 hu r
    rw [Ty.putL, Ty.preL, Ty.preL, List.length_append, List.length_append, Nat.add_mul]; omega
end
theorem Ty.put_ok (f : Ty → Option Ty) (hu : ∀ x u, f x = some u → u.Ok) : ∀ (t : Ty), t.Ok → (t.put f).Ok := by
  have key : ∀ (n : Nat) (t : Ty), SizeOf.sizeOf t < n → t.Ok → (t.put f).Ok := by
    intro n
    induction n with
    | zero => intro t h; omega
    | succ n ih =>
      intro t hn ok
      rw [Ty.put_eq]
      cases hf : f t with
      | some u => exact hu _ _ hf
      | none =>
        have ho := ok
        cases ho with
        | mk hk hn' hs hl hls ha has =>
          show Ty.Ok ⟨t.k, t.n, t.name, t.labels, Ty.putL f t.args⟩
          rw [Ty.putL_map]
          refine .mk hk hn' hs hl hls (by rw [List.length_map]; exact ha) fun a hm => ?_
          obtain ⟨x, hx, rfl⟩ := List.mem_map.1 hm
          have hsz : SizeOf.sizeOf x < SizeOf.sizeOf t := by
            have := List.sizeOf_lt_of_mem hx
            cases t; simp only [Ty.mk.sizeOf_spec] at *; omega
          exact ih x (by omega) (has x hx)
  exact fun t => key _ t (Nat.lt_succ_self _)

theorem fits80 (t : Ty) (ok : t.Ok) (hv : t.pre.length ≤ 4294967296) (h : Heap) : evw E 80 [.agg t.cells] h = some (.ret (.lit (.bool (decide ((t.pre.length : Int) ≤ 300)))), h) := by
  refine evw_run primsC 0 rfl rfl rfl ?_
  rw [nf80, aggS, bind_some', Ty.cells_len, b5, condT, Ty.refold, nodes_spec _ _ ok, onOut_ret, bin_int, leqI, bind_some', Ty.nodes_pre t hv]
theorem fitting49 (t : Ty) (ok : t.Ok) (hv : t.pre.length ≤ 4294967296) (h : Heap) : evw E 49 [.agg t.cells] h = some (.ret (.tup [.agg (t.fit.getD nilT).cells, .lit (.bool t.fit.isSome)]), h) := by
  refine evw_run primsC 0 rfl rfl rfl ?_
  rw [nf49, aggS, bind_some', Ty.cells_len, b5, condT, Ty.refold, fits80 t ok hv, onOut_ret, notB, bind_some', boolB, bind_some', ← nilT_cells]
  unfold Ty.fit
  cases decide ((t.pre.length : Int) ≤ 300) <;> rfl
/- names become seals -/
theorem index58 (l : List ByteArray) (hl : l.length ≤ maxLen) (s : ByteArray) (h : Heap) : evw E 58 [.sl 1 (l.map strC), .lit (.string s)] h = some (.ret (.lit (.int .i64 (idxR l 0 s))), h) := by
  have hl : l.length ≤ 9223372036854775807 := hl
  have loop : ∀ (q i : Nat), i ≤ l.length → l.length < q + i → Lp58_0 (evw E) (l.length + 1) h q h (.sl 1 (l.map strC)) (.lit (.string s)) (.lit (.int .i64 (l.length : Int))) (.lit (.int .i64 (i : Int))) = some (.ret (.lit (.int .i64 (idxR (l.drop i) i s))), h) := by
    intro q
    induction q with
    | zero => intro i h1 h2; omega
    | succ q ih =>
      intro i h1 h2
      rw [Lp58_0_succ, bin_int, lssI, bind_some', boolB, bind_some']
      by_cases hi : i < l.length
      · rw [ltT hi, condT, indexA_map _ _ _ _ hi, bind_some', part_str, bind_some', eqS, bind_some', boolB, bind_some', List.drop_eq_getElem_cons hi, idxR, strEq_comm]
        cases strEq l[i] s with
        | true => rfl
        | false => rw [condF, condF, bin_int, addI, bind_some', incI (by omega)]; exact ih (i + 1) hi (by omega)
      · rw [ltF hi, condF, show l.drop i = [] from List.drop_eq_nil_of_le (by omega), idxR]
  refine evw_run primsC (l.length + 1) rfl rfl rfl ?_
  rw [nf58, lenA23, bind_some', List.length_map]
  have := loop (l.length + 1) 0 (Nat.zero_le _) (by omega)
  rw [List.drop_zero, show ((0 : Nat) : Int) = 0 from rfl] at this
  exact this
def stampT (n : Int) : Ty := ⟨9, n, ByteArray.empty, [], []⟩
theorem stampT_cells (n : Int) : (stampT n).cells = [.lit (.int .i64 9), .lit (.int .i64 n), .lit (.string ByteArray.empty), .sl 1 [], .sl 5 []] := by rw [Ty.cells_eq]; rfl
noncomputable def sealF (ns : List ByteArray) (t : Ty) : Option Ty := bif eqd t.k 6 then (bif decide (idxR ns 0 t.name ≥ 0) then some (stampT (add64 0 (idxR ns 0 t.name))) else none) else none
noncomputable def sealP (ns : List ByteArray) (t : Ty) : Ty := bif decide ((0 : Int) > sub64 1073741824 ns.length) then t else t.put (sealF ns)
theorem mkT_cells (t : Ty) (l : List Ty) : Ty.cells ⟨t.k, t.n, t.name, t.labels, l⟩ = [.lit (.int .i64 t.k), .lit (.int .i64 t.n), .lit (.string t.name), .sl 1 (t.labels.map strC), .sl 5 (l.map Ty.cells)] := by rw [Ty.cells_eq]
theorem stamp36 (ns : List ByteArray) (hn : ns.length ≤ maxLen) : ∀ (t : Ty) (h : Heap), t.Ok → t.pre.length ≤ 1048576 → evw E 36 [.agg t.cells, .sl 1 (ns.map strC), .lit (.int .i64 0)] h = some (.ret (.agg (sealP ns t).cells), h)
  | t, h, ok, hv => by
    have hlen : t.args.length ≤ 9223372036854775807 := ok.len
    have hpe : t.pre = t :: Ty.preL t.args := by cases t; rw [Ty.pre]
    rw [hpe, List.length_cons] at hv
    have hal := preL_len t.args
    refine evw_run primsC (t.args.length + 1) rfl rfl rfl ?_
    rw [nf36, aggS, bind_some', Ty.cells_len, b5, condT, Ty.refold, bin_int, lssI, bind_some', boolB, bind_some', show decide ((0 : Int) < 0) = false from by decide, condF, lenA23, bind_some', List.length_map, bin_int, subI, bind_some', bin_int, gtrI, bind_some', boolB, bind_some']
    unfold sealP
    cases hg : decide ((0 : Int) > sub64 1073741824 ns.length) with
    | true => rw [condT, cond_true]
    | false =>
      have loop : ∀ (H0 : Heap) (y0 y1 y2 : AV) (z1 z2 : List (List AV)) (x5 x6 x7 x8 : AV) (q i : Nat) (acc : List Ty), i ≤ t.args.length → t.args.length < q + i → acc.length + (t.args.length - i) ≤ 1048576 →
          Lp36_0 (evw E) (t.args.length + 1) H0 q h (.sl 1 (ns.map strC)) (.lit (.int .i64 0)) y0 y1 y2 z1 z2 x5 x6 x7 x8 (acc.map Ty.cells) (.sl 5 (t.args.map Ty.cells)) (.lit (.int .i64 (t.args.length : Int))) (.lit (.int .i64 (i : Int))) = some (.ret (.agg [x5, x6, x7, x8, .sl 5 ((acc ++ Ty.putL (sealF ns) (t.args.drop i)).map Ty.cells)]), h) := by
        intro H0 y0 y1 y2 z1 z2 x5 x6 x7 x8 q
        induction q with
        | zero => intro i acc h1 h2; omega
        | succ q ih =>
          intro i acc h1 h2 h3
          rw [Lp36_0_succ, bin_int, lssI, bind_some', boolB, bind_some']
          by_cases hi : i < t.args.length
          · have hmem := List.getElem_mem hi
            have hrec := stamp36 ns hn (t.args[i]) h (ok.arg hmem) (by have := Ty.preL_mem t.args _ hmem; omega)
            unfold sealP at hrec
            rw [hg, cond_false] at hrec
            rw [ltT hi, condT, indexA_map _ _ _ _ hi, bind_some', partA_full (Ty.cells_len _), bind_some', aggS, bind_some', Ty.cells_len, b5, condT, Ty.refold, hrec, onOut_ret, aggS, bind_some', Ty.cells_len, b5, condT, List.length_map, bleA (by simp; omega), condT, bin_int, addI, bind_some', incI (by omega), Ty.refold, tyL_snoc, ih (i + 1) _ hi (by omega) (by simp; omega), List.drop_eq_getElem_cons hi, Ty.putL, List.append_assoc]
            rfl
          · rw [ltF hi, condF, List.drop_of_length_le (by omega), Ty.putL, List.append_nil]
      have fin := fun y0 y1 y2 z1 z2 => loop h y0 y1 y2 z1 z2 (.lit (.int .i64 t.k)) (.lit (.int .i64 t.n)) (.lit (.string t.name)) (.sl 1 (t.labels.map strC)) (t.args.length + 1) 0 [] (Nat.zero_le _) (by omega) (by simp; omega)
      rw [List.drop_zero] at fin
      rw [condF, cond_false, Ty.c0, Ty.c1, Ty.c2, Ty.c3, Ty.c4, index58 ns hn, onOut_ret, bin_int, eqlE, bind_some', boolB, bind_some', lenA24, bind_some', List.length_map, Ty.put_eq]
      unfold sealF
      cases eqd t.k 6 with
      | false => rw [condF, cond_false]; exact (fin _ _ _ _ _).trans (by rw [mkT_cells]; rfl)
      | true =>
        rw [condT, cond_true, bin_int, geqI, bind_some', boolB, bind_some']
        cases decide (idxR ns 0 t.name ≥ 0) with
        | false => rw [condF, cond_false]; exact (fin _ _ _ _ _).trans (by rw [mkT_cells]; rfl)
        | true => rw [condT, cond_true, bin_int, addI, bind_some', show AV.one (.lit (.int .i64 (add64 0 (idxR ns 0 t.name)))) = true from rfl, condT, ← stampT_cells]
  termination_by t => SizeOf.sizeOf t
  decreasing_by exact Ty.size_arg hi
end Go.Sh.T

/- How much a signature has. -/
namespace Go.Sh.T
open Go Go.Sh
set_option linter.unusedSimpArgs false
set_option linter.unusedVariables false
set_option maxRecDepth 100000

/- sizes -/
mutual
def Ty.cnt : Ty → Nat
  | ⟨_, _, _, _, xs⟩ => 1 + Ty.cntL xs
def Ty.cntL : List Ty → Nat
  | [] => 0
  | t :: r => t.cnt + Ty.cntL r
end
def Ty.vol (t : Ty) : Nat := volC t.cells
def Ty.volL : List Ty → Nat
  | [] => 0
  | t :: r => t.vol + Ty.volL r
def strVol : List ByteArray → Nat
  | [] => 0
  | s :: r => s.size + 1 + strVol r
theorem volE_str : ∀ l : List ByteArray, volE (l.map strC) = strVol l
  | [] => by rw [List.map_nil, volE, strVol]
  | s :: r => by rw [List.map_cons, volE, strVol, volE_str r]; simp only [strC, volC, Sh.vol]
theorem volE_ty : ∀ l : List Ty, volE (l.map Ty.cells) = Ty.volL l
  | [] => by rw [List.map_nil, volE, Ty.volL]
  | t :: r => by rw [List.map_cons, volE, Ty.volL, volE_ty r, Ty.vol]
theorem Ty.vol_eq (t : Ty) : t.vol = 5 + t.name.size + strVol t.labels + Ty.volL t.args := by
  rw [Ty.vol, Ty.cells_eq]
  simp only [volC, Sh.vol, volE_str, volE_ty]
  omega
theorem strVol_len : ∀ l : List ByteArray, l.length ≤ strVol l
  | [] => Nat.le_refl _
  | s :: r => by have := strVol_len r; rw [strVol, List.length_cons]; omega
theorem strVol_take : ∀ (n : Nat) (l : List ByteArray), strVol (l.take n) ≤ strVol l
  | 0, l => by rw [List.take_zero, strVol]; exact Nat.zero_le _
  | n + 1, [] => Nat.le_refl _
  | n + 1, s :: r => by have := strVol_take n r; rw [List.take_succ_cons, strVol, strVol]; omega

theorem quo8_of {s : ByteArray} (h : s.size ≤ 9000000) : 0 ≤ quo8 s ∧ quo8 s ≤ s.size := by
  unfold quo8
  have h1 : ((s.size : Int).tdiv 8) = (s.size : Int) / 8 := by
    rw [Int.tdiv_eq_ediv_of_nonneg (by omega)]
  rw [h1, IntWalk.i64_in _ (by omega)]
  omega
theorem add64_of {x y : Int} (h0 : -9000000000000000000 ≤ x + y) (h : x + y ≤ 9000000000000000000) : add64 x y = x + y := by
  unfold add64; rw [IntWalk.i64_in _ (by omega)]

theorem labs_of : ∀ (l : List ByteArray) (n : Int), 0 ≤ n → strVol l + n ≤ 8000000 → n ≤ labs n l ∧ labs n l ≤ n + strVol l
  | [], n, h0, h => by rw [labs, strVol]; omega
  | s :: r, n, h0, h => by
    rw [strVol] at h ⊢
    obtain ⟨q0, q1⟩ := quo8_of (s := s) (by omega)
    rw [labs, add64_of (by omega) (by omega)]
    have := labs_of r (n + quo8 s) (by omega) (by omega)
    omega

mutual
theorem much_of : ∀ t : Ty, t.vol ≤ 1048576 → 1 ≤ t.much ∧ t.much ≤ 2 * (t.vol : Int) ∧ (t.much < 3000 → (t.cnt : Int) ≤ t.much)
  | ⟨k, n, s, ls, xs⟩, h => by
    rw [Ty.vol_eq] at h ⊢
    rw [Ty.much, Ty.cnt]
    simp only at h ⊢
    have hl := strVol_len ls
    have ht := strVol_take 1000 ls
    obtain ⟨q0, q1⟩ := quo8_of (s := s) (by omega)
    rw [add64_of (x := 1) (by omega) (by omega), add64_of (by omega) (by omega)]
    have h1 := labs_of (ls.take 1000) (1 + quo8 s + ls.length) (by omega) (by omega)
    have h2 := muchL_of xs (labs (1 + quo8 s + ls.length) (ls.take 1000)) (by omega) (by omega) (by omega)
    refine ⟨by omega, by omega, fun h3 => ?_⟩
    have := h2.2.2 h3
    omega
theorem muchL_of : ∀ (l : List Ty) (n : Int), 1 ≤ n → n + 2 * (Ty.volL l : Int) ≤ 8000000 → Ty.volL l ≤ 1048576 → n ≤ Ty.muchL n l ∧ Ty.muchL n l ≤ n + 2 * (Ty.volL l : Int) ∧ (Ty.muchL n l < 3000 → n + Ty.cntL l ≤ Ty.muchL n l)
  | [], n, h0, h, _ => by rw [Ty.muchL, Ty.volL, Ty.cntL]; omega
  | t :: r, n, h0, h, hv => by
    rw [Ty.volL] at h hv ⊢
    rw [Ty.muchL, Ty.cntL]
    by_cases h3 : n < 3000
    · rw [show decide (n < 3000) = true from by simpa using h3, cond_true]
      obtain ⟨m1, m2, m3⟩ := much_of t (by omega)
      rw [add64_of (by omega) (by omega)]
      obtain ⟨k1, k2, k3⟩ := muchL_of r (n + t.much) (by omega) (by omega) (by omega)
      refine ⟨by omega, by omega, fun h4 => ?_⟩
      have e1 := k3 h4
      have e2 := m3 (by omega)
      omega
    · rw [show decide (n < 3000) = false from by simpa using h3, cond_false]
      refine ⟨by omega, by omega, fun h4 => by omega⟩
end

mutual
theorem Ty.cnt_pre : ∀ t : Ty, t.cnt = t.pre.length
  | ⟨k, n, s, ls, xs⟩ => by rw [Ty.cnt, Ty.pre, List.length_cons, Ty.cntL_pre xs]; omega
theorem Ty.cntL_pre : ∀ l : List Ty, Ty.cntL l = (Ty.preL l).length
  | [] => rfl
  | t :: r => by rw [Ty.cntL, Ty.preL, List.length_append, Ty.cnt_pre t, Ty.cntL_pre r]
end
theorem Bind.vol' (b : Bind) : volC b.cells = b.name.size + 1 + b.ty.vol := by rw [Bind.vol]; rfl
theorem bindsL_of : ∀ (l : List Bind) (n : Int), 0 ≤ n → n + 3 * (volE (l.map Bind.cells) : Int) ≤ 8000000 → volE (l.map Bind.cells) ≤ 1048576 → n ≤ bindsL n l ∧ bindsL n l ≤ n + 3 * (volE (l.map Bind.cells) : Int) ∧ (bindsL n l < 3000 → ∀ b ∈ l, (b.ty.cnt : Int) ≤ bindsL n l)
  | [], n, h0, h, _ => by rw [bindsL]; exact ⟨by omega, by simp [volE], fun _ b hb => by cases hb⟩
  | b :: r, n, h0, h, hv => by
    rw [List.map_cons, volE, Bind.vol'] at h hv ⊢
    rw [bindsL]
    by_cases h3 : n < 3000
    · rw [show decide (n < 3000) = true from by simpa using h3, cond_true]
      obtain ⟨m1, m2, m3⟩ := much_of b.ty (by omega)
      obtain ⟨q0, q1⟩ := quo8_of (s := b.name) (by omega)
      rw [add64_of (x := n) (by omega) (by omega), add64_of (by omega) (by omega)]
      obtain ⟨k1, k2, k3⟩ := bindsL_of r (n + b.ty.much + quo8 b.name) (by omega) (by omega) (by omega)
      refine ⟨by omega, by omega, fun h4 c hc => ?_⟩
      rcases List.mem_cons.1 hc with e | e
      · rw [e]; have := m3 (by omega); omega
      · exact k3 h4 c e
    · rw [show decide (n < 3000) = false from by simpa using h3, cond_false]
      exact ⟨by omega, by omega, fun h4 => by omega⟩
theorem Sig.volC_eq (s : Sig) : volC s.cells = s.name.size + 1 + (Sh.vol (.sl 6 (s.bs.map Bind.cells)) + (Sh.vol (.sl 6 (s.ps.map Bind.cells)) + s.res.vol)) := rfl
theorem sig_few (s : Sig) (hv : volC s.cells ≤ 1048576) (h : decide (Def.all ⟨s, zeroE⟩ > 400) = false) : ∀ t ∈ s.tys, t.pre.length ≤ 400 := by
  have h := of_decide_eq_false h
  have h0 := s.vol_bs
  have hb := volE_len Bind.cells Bind.vol1 s.bs
  have hp := volE_len Bind.cells Bind.vol1 s.ps
  have hn : s.name.size ≤ volC s.cells := by rw [Sig.volC_eq]; omega
  have hr : s.res.vol = volC s.res.cells := rfl
  have hz : zeroE.much = 1 := by decide +kernel
  obtain ⟨a1, a2, a3⟩ := bindsL_of s.bs s.bs.length (by omega) (by omega) (by omega)
  obtain ⟨b1, b2, b3⟩ := bindsL_of s.ps s.ps.length (by omega) (by omega) (by omega)
  obtain ⟨c1, c2, c3⟩ := much_of s.res (by omega)
  obtain ⟨q0, q1⟩ := quo8_of (s := s.name) (by omega)
  unfold Def.all at h
  simp only [hz] at h
  rw [add64_of (x := 1) (by omega) (by omega), add64_of (x := 1 + _) (by omega) (by omega), add64_of (x := 1 + _ + _) (by omega) (by omega), add64_of (by omega) (by omega)] at h
  intro t ht
  rw [← Ty.cnt_pre]
  unfold Sig.tys at ht
  rcases List.mem_append.1 ht with ht | ht
  · obtain ⟨b, hb, rfl⟩ := List.mem_map.1 ht
    have := a3 (by omega) b hb; omega
  · rcases List.mem_append.1 ht with ht | ht
    · obtain ⟨b, hb, rfl⟩ := List.mem_map.1 ht
      have := b3 (by omega) b hb; omega
    · rw [List.mem_singleton.1 ht]; have := c3 (by omega); omega

/- the functions of a signature -/
def eInt : Exp := ⟨1, 0, ByteArray.empty, false, [], [], []⟩
theorem eInt_ok : eInt.Ok := .mk rfl rfl (Nat.zero_le _) (Nat.zero_le _) (fun _ h => by cases h) (Nat.zero_le _) (fun _ h => by cases h) (Nat.zero_le _) (fun _ h => by cases h)
theorem cells_with (s : Sig) (e : Exp) {x0 x1 x2 x3 x4 x5 x6 : AV} (h : e.cells = [x0, x1, x2, x3, x4, x5, x6]) : [s.cells.getD 0 .dead, s.cells.getD 1 .dead, s.cells.getD 2 .dead, s.cells.getD 3 .dead, s.cells.getD 4 .dead, s.cells.getD 5 .dead, s.cells.getD 6 .dead, s.cells.getD 7 .dead, x0, x1, x2, x3, x4, x5, x6] = (Def.mk s e).cells := by
  show [s.cells.getD 0 .dead, s.cells.getD 1 .dead, s.cells.getD 2 .dead, s.cells.getD 3 .dead, s.cells.getD 4 .dead, s.cells.getD 5 .dead, s.cells.getD 6 .dead, s.cells.getD 7 .dead] ++ [x0, x1, x2, x3, x4, x5, x6] = s.cells ++ e.cells
  rw [Sig.re, h]
theorem eInt_cells : eInt.cells = [.lit (.int .i64 1), .lit (.int .i64 0), .lit (.string ByteArray.empty), .lit (.bool false), .sl 5 [], .sl 1 [], .sl 7 []] := by rw [Exp.cells_eq]; rfl
theorem zeroE_cells' : zeroE.cells = [.lit (.int .i64 0), .lit (.int .i64 0), .lit (.string ByteArray.empty), .lit (.bool false), .sl 5 [], .sl 1 [], .sl 7 []] := by rw [Exp.cells_eq]; rfl
theorem much5 (s : Sig) (ok : s.Ok) (h : Heap) : evw E 5 [.agg s.cells] h = some (.ret (.lit (.int .i64 (Def.all ⟨s, zeroE⟩))), h) := by
  refine evw_run primsC 0 rfl rfl rfl ?_
  rw [nf5, aggS, bind_some', Sig.len, b8, condT, cells_with s zeroE zeroE_cells', all26 ⟨s, zeroE⟩ h ⟨ok, zeroE_ok⟩, onOut_ret]
def Sig.good (s : Sig) : Bool := (Def.mk s eInt).rightB
theorem eInt_pre : expsN eInt.pre ≤ 1048576 := by decide +kernel
theorem right13 (s : Sig) (ok : s.Ok) (sl : s.Slim) (h : Heap) : evw E 13 [.agg s.cells] h = some (.ret (.lit (.bool s.good)), h) := by
  refine evw_run primsC 0 rfl rfl rfl ?_
  rw [nf13, aggS, bind_some', Sig.len, b8, condT, cells_with s eInt eInt_cells, def29 ⟨s, eInt⟩ ⟨ok, eInt_ok⟩ sl eInt_pre, onOut_ret]; rfl
end Go.Sh.T

/- Inst, Sealed, Check, Base. -/
namespace Go.Sh.T
open Go Go.Sh
set_option linter.unusedSimpArgs false
set_option linter.unusedVariables false
set_option maxRecDepth 100000

theorem types9 (l : List Bind) (hl : l.length ≤ 1048576) (h : Heap) : evw E 9 [.sl 6 (l.map Bind.cells)] h = some (.ret (.sl 5 ((l.map Bind.ty).map Ty.cells)), h) := by
  have loop : ∀ (q i : Nat) (z : List Ty), i ≤ l.length → l.length < q + i → z.length + (l.length - i) ≤ 1048576 → Lp9_0 (evw E) (l.length + 1) h q h (.sl 6 (l.map Bind.cells)) (z.map Ty.cells) (.lit (.int .i64 (i : Int))) = some (.ret (.sl 5 ((z ++ (l.drop i).map Bind.ty).map Ty.cells)), h) := by
    intro q
    induction q with
    | zero => intro i z h1 h2; omega
    | succ q ih =>
      intro i z h1 h2 h3
      rw [Lp9_0_succ, lenA22, bind_some', List.length_map, bin_int, lssI, bind_some', boolB, bind_some']
      by_cases hi : i < l.length
      · rw [ltT hi, condT, indexA_map _ _ _ _ hi, bind_some', Bind.len, show Nat.ble 1 6 = true from rfl, condT, Bind.p1, bind_some', aggS, bind_some', Ty.cells_len, b5, condT, List.length_map, bleA (by simp; omega), condT, bin_int, addI, bind_some', incI (by omega), Ty.refold, tyL_snoc, ih (i + 1) _ hi (by omega) (by simp; omega), List.drop_eq_getElem_cons hi, List.map_cons (f := Bind.ty), List.append_assoc z]
        rfl
      · rw [ltF hi, condF, List.drop_of_length_le (by omega), List.map_nil, List.append_nil]
  refine evw_run primsC (l.length + 1) rfl rfl rfl ?_
  rw [nf9]
  have := loop (l.length + 1) 0 [] (Nat.zero_le _) (by omega) (by simp; omega)
  rw [List.drop_zero] at this
  exact this
def Sig.pty (s : Sig) : List Ty := s.ps.map Bind.ty
theorem types29 (s : Sig) (hl : s.ps.length ≤ 1048576) (h : Heap) : evw E 29 [.agg s.cells] h = some (.own 5 (s.pty.map Ty.cells), h) := by
  have loop : ∀ (q i : Nat) (z : List Ty), i ≤ s.ps.length → s.ps.length < q + i → z.length + (s.ps.length - i) ≤ 1048576 → Lp29_0 (evw E) (s.ps.length + 1) h q h (z.map Ty.cells) (.sl 6 (s.ps.map Bind.cells)) (.lit (.int .i64 (s.ps.length : Int))) (.lit (.int .i64 (i : Int))) = some (.own 5 ((z ++ (s.ps.drop i).map Bind.ty).map Ty.cells), h) := by
    intro q
    induction q with
    | zero => intro i z h1 h2; omega
    | succ q ih =>
      intro i z h1 h2 h3
      rw [Lp29_0_succ, bin_int, lssI, bind_some', boolB, bind_some']
      by_cases hi : i < s.ps.length
      · rw [ltT hi, condT, indexA_map _ _ _ _ hi, bind_some', partA_full (Bind.len _), bind_some', aggS, bind_some', Bind.len, b6, condT, List.length_map, bleA (by simp; omega), condT, bin_int, addI, bind_some', incI (by omega), Bind.re1, tyL_snoc, ih (i + 1) _ hi (by omega) (by simp; omega), List.drop_eq_getElem_cons hi, List.map_cons (f := Bind.ty), List.append_assoc z]
        rfl
      · rw [ltF hi, condF, List.drop_of_length_le (by omega), List.map_nil, List.append_nil]
  refine evw_run primsC (s.ps.length + 1) rfl rfl rfl ?_
  rw [nf29, aggS, bind_some', Sig.len, b8, condT, Sig.c2, lenA22, bind_some', List.length_map]
  have := loop (s.ps.length + 1) 0 [] (Nat.zero_le _) (by omega) (by simp; omega)
  rw [List.drop_zero] at this
  exact this
/- binders with types in place of their bounds -/
def zipB : List Bind → List Ty → List Bind
  | b :: r, t :: q => ⟨b.name, t⟩ :: zipB r q
  | _, _ => []
theorem zipB_drop : ∀ (bs : List Bind) (A : List Ty) (i : Nat) (h1 : i < bs.length) (h2 : i < A.length), zipB (bs.drop i) (A.drop i) = ⟨(bs[i]).name, A[i]⟩ :: zipB (bs.drop (i + 1)) (A.drop (i + 1)) := fun bs A i h1 h2 => by
  rw [List.drop_eq_getElem_cons h1, List.drop_eq_getElem_cons h2, zipB]
theorem zipB_mem : ∀ {bs : List Bind} {A : List Ty} {b : Bind}, b ∈ zipB bs A → (∃ c ∈ bs, c.name = b.name) ∧ b.ty ∈ A
  | c :: r, t :: q, b, h => by
    rw [zipB] at h
    rcases List.mem_cons.1 h with e | e
    · rw [e]; exact ⟨⟨c, List.mem_cons_self, rfl⟩, List.mem_cons_self⟩
    · obtain ⟨⟨d, h1, h2⟩, h3⟩ := zipB_mem e
      exact ⟨⟨d, List.mem_cons_of_mem _ h1, h2⟩, List.mem_cons_of_mem _ h3⟩
  | [], _, b, h => by simp [zipB] at h
  | _ :: _, [], b, h => by simp [zipB] at h
theorem zipB_len : ∀ (bs : List Bind) (A : List Ty), (zipB bs A).length ≤ bs.length
  | [], _ => by rw [zipB]; exact Nat.le_refl _; intro b r t q h; cases h
  | _ :: _, [] => by rw [zipB]; exact Nat.zero_le _; intro b r t q _ h; cases h
  | _ :: r, _ :: q => by rw [zipB, List.length_cons, List.length_cons]; have := zipB_len r q; omega
theorem bL_snoc (z : List Bind) (b : Bind) : z.map Bind.cells ++ [b.cells] = (z ++ [b]).map Bind.cells := by rw [List.map_append]; rfl
theorem mkB_cells (n : ByteArray) (t : Ty) : [AV.lit (.string n), t.cells.getD 0 .dead, t.cells.getD 1 .dead, t.cells.getD 2 .dead, t.cells.getD 3 .dead, t.cells.getD 4 .dead] = Bind.cells ⟨n, t⟩ := by
  show AV.lit (.string n) :: [t.cells.getD 0 .dead, t.cells.getD 1 .dead, t.cells.getD 2 .dead, t.cells.getD 3 .dead, t.cells.getD 4 .dead] = _
  rw [Ty.refold]; rfl
/-- What comes of it: the params' types, the result's, and what is wrong. -/
noncomputable def instP (s : Sig) (A : List Ty) : List Ty × Ty × Int :=
  bif !(eqd (A.length : Int) (s.bs.length : Int)) then ([], nilT, 16) else
    bif !(allP (zipB s.bs A) s.pty).isSome then ([], nilT, 12) else bif !(fitP (zipB s.bs A) s.res).isSome then ([], nilT, 12) else
      ((allP (zipB s.bs A) s.pty).getD [], (fitP (zipB s.bs A) s.res).getD nilT, 0)
def triple (x : List Ty × Ty × Int) : AV := .tup [.sl 5 (x.1.map Ty.cells), .agg x.2.1.cells, .lit (.int .i64 x.2.2)]
/-- What a signature must be, for all that follows. -/
structure Sig.Fair (s : Sig) : Prop where
  ok : s.Ok
  slim : s.Slim
  few : ∀ t ∈ s.tys, t.pre.length ≤ 400
theorem Sig.Fair.res {s : Sig} (f : s.Fair) : s.res.Ok ∧ s.res.pre.length ≤ 400 := ⟨f.ok.res, f.few _ (by unfold Sig.tys; simp)⟩
theorem Sig.Fair.pty {s : Sig} (f : s.Fair) : ∀ t ∈ s.pty, t.Ok ∧ t.pre.length ≤ 400 := fun t ht => by
  have hm : t ∈ s.tys := by unfold Sig.tys; unfold Sig.pty at ht; simp only [List.mem_append]; exact .inr (.inl ht)
  exact ⟨Sig.tys_ok f.ok t hm, f.few t hm⟩
theorem Sig.pty_len {s : Sig} (f : s.Fair) : s.pty.length ≤ 1048576 := by have := f.slim.len; unfold Sig.pty; rw [List.length_map]; omega
theorem small_zip {s : Sig} (f : s.Fair) {A : List Ty} (oA : ∀ t ∈ A, t.Ok) (hA : ∀ t ∈ A, t.pre.length ≤ 1048576) : Small (zipB s.bs A) := by
  have h1 := zipB_len s.bs A
  have h2 := f.slim.len
  refine ⟨by omega, fun b hb => ?_, fun b hb => hA _ (zipB_mem hb).2⟩
  obtain ⟨⟨c, hc, e⟩, h3⟩ := zipB_mem hb
  exact ⟨by rw [← e]; exact (f.ok.bs c hc).name, oA _ h3⟩
theorem inst8 (s : Sig) (f : s.Fair) (A : List Ty) (oA : ∀ t ∈ A, t.Ok) (hA : ∀ t ∈ A, t.pre.length ≤ 1048576) (h : Heap) : evw E 8 [.agg s.cells, .sl 5 (A.map Ty.cells)] h = some (.ret (triple (instP s A)), h) := by
  have hs := f.slim.len
  have sm := small_zip f oA hA
  refine evw_run primsC (s.bs.length + 1) rfl rfl rfl ?_
  rw [nf8, aggS, bind_some', Sig.len, b8, condT, lenA24, bind_some', List.length_map, Sig.c1, lenA22, bind_some', List.length_map, bin_int, neqE, bind_some', boolB, bind_some', ← nilT_cells]
  unfold instP
  cases he : eqd (A.length : Int) (s.bs.length : Int) with
  | false => rfl
  | true =>
    have he : (A.length : Int) = (s.bs.length : Int) := eqd_iff.1 he
    have he : A.length = s.bs.length := by omega
    have fin : ∀ (q : Nat) (z : List Bind) (x8 x9 x10 y0 y1 y2 : AV) (w0 w1 : Nat) (u0 u1 : List (List AV)) (i : Nat), s.bs.length ≤ i → z = zipB s.bs A →
        Lp8_0 (evw E) (s.bs.length + 1) h (q + 1) h (.sl 5 (A.map Ty.cells)) (s.cells.getD 0 .dead) (.sl 6 (s.bs.map Bind.cells)) (s.cells.getD 2 .dead) (s.cells.getD 3 .dead) (s.cells.getD 4 .dead) (s.cells.getD 5 .dead) (s.cells.getD 6 .dead) (s.cells.getD 7 .dead) y0 y1 y2 w0 u0 w1 u1 6 (z.map Bind.cells) (.sl 6 (s.bs.map Bind.cells)) (.lit (.int .i64 (s.bs.length : Int))) (.lit (.int .i64 (i : Int))) = some (.ret (triple (bif !(allP (zipB s.bs A) s.pty).isSome then ([], nilT, 12) else bif !(fitP (zipB s.bs A) s.res).isSome then ([], nilT, 12) else
      ((allP (zipB s.bs A) s.pty).getD [], (fitP (zipB s.bs A) s.res).getD nilT, 0))), h) := by
      intro q z x8 x9 x10 y0 y1 y2 w0 w1 u0 u1 i hi hz
      subst hz
      have hre : [s.cells.getD 0 .dead, .sl 6 (s.bs.map Bind.cells), s.cells.getD 2 .dead, s.cells.getD 3 .dead, s.cells.getD 4 .dead, s.cells.getD 5 .dead, s.cells.getD 6 .dead, s.cells.getD 7 .dead] = s.cells := by rw [← Sig.c1]; exact Sig.re s
      rw [Lp8_0_succ, bin_int, lssI, bind_some', boolB, bind_some', ltF (by omega), condF, hre, types29 s (by omega), onOut_own, all28 _ sm _ (Sig.pty_len f) (fun t ht => (f.pty t ht).1) (fun t ht => by have := (f.pty t ht).2; omega), onOut_ret, tupS, bind_some', t20, bind_some', bind_some', t21, bind_some', Sig.re3, put30 _ sm _ f.res.1 (by have := f.res.2; omega), onOut_ret, tupS, bind_some', t20, bind_some', bind_some', t21, bind_some', aggS, bind_some', Ty.cells_len, b5, condT, notB, bind_some', boolB, bind_some', Ty.refold, notB, bind_some', boolB, bind_some', ← nilT_cells]
      cases (allP (zipB s.bs A) s.pty).isSome <;> cases (fitP (zipB s.bs A) s.res).isSome <;> rfl
    have loop : ∀ (y0 y1 y2 : AV) (w0 w1 : Nat) (u0 u1 : List (List AV)) (q i : Nat) (z : List Bind), i ≤ s.bs.length → s.bs.length < q + i → z.length + (s.bs.length - i) ≤ 1048576 → z ++ zipB (s.bs.drop i) (A.drop i) = zipB s.bs A →
        Lp8_0 (evw E) (s.bs.length + 1) h q h (.sl 5 (A.map Ty.cells)) (s.cells.getD 0 .dead) (.sl 6 (s.bs.map Bind.cells)) (s.cells.getD 2 .dead) (s.cells.getD 3 .dead) (s.cells.getD 4 .dead) (s.cells.getD 5 .dead) (s.cells.getD 6 .dead) (s.cells.getD 7 .dead) y0 y1 y2 w0 u0 w1 u1 6 (z.map Bind.cells) (.sl 6 (s.bs.map Bind.cells)) (.lit (.int .i64 (s.bs.length : Int))) (.lit (.int .i64 (i : Int))) = some (.ret (triple (bif !(allP (zipB s.bs A) s.pty).isSome then ([], nilT, 12) else bif !(fitP (zipB s.bs A) s.res).isSome then ([], nilT, 12) else
      ((allP (zipB s.bs A) s.pty).getD [], (fitP (zipB s.bs A) s.res).getD nilT, 0))), h) := by
      intro y0 y1 y2 w0 w1 u0 u1 q
      induction q with
      | zero => intro i z h1 h2; omega
      | succ q ih =>
        intro i z h1 h2 h3 h4
        by_cases hi : i < s.bs.length
        · have hj : i < A.length := by omega
          rw [zipB_drop _ _ _ hi hj] at h4
          rw [Lp8_0_succ, bin_int, lssI, bind_some', boolB, bind_some', ltT hi, condT, indexA_map _ _ _ _ hi, bind_some', partA_full (Bind.len _), bind_some', aggS, bind_some', Bind.len, b6, condT, indexA_map _ _ _ _ hj, bind_some', partA_full (Ty.cells_len _), bind_some', Bind.n0, one_str, condT, aggS, bind_some', Ty.cells_len, b5, condT, List.length_map, Bool.true_and, bleA (by simp; omega), condT, bin_int, addI, bind_some', incI (by omega), mkB_cells, bL_snoc]
          exact ih (i + 1) _ hi (by omega) (by simp; omega) (by rw [List.append_assoc]; exact h4)
        · have hz : z = zipB s.bs A := by
            rw [List.drop_of_length_le (show s.bs.length ≤ i by omega)] at h4
            have : zipB [] (A.drop i) = [] := by cases A.drop i <;> rfl
            rw [this, List.append_nil] at h4; exact h4
          exact fin q z y0 y1 y2 y0 y1 y2 w0 w1 u0 u1 i (by omega) hz
    rw [Bool.not_true, condF, cond_false, bind_some']
    exact loop _ _ _ _ _ _ _ (s.bs.length + 1) 0 [] (Nat.zero_le _) (by omega) (by simp; omega) (by rw [List.drop_zero, List.drop_zero]; rfl)
end Go.Sh.T

/- Sealed, Check, Base. -/
namespace Go.Sh.T
open Go Go.Sh
set_option linter.unusedSimpArgs false
set_option linter.unusedVariables false
set_option maxRecDepth 100000

noncomputable def Sig.stampL (s : Sig) : List Ty := s.pty.map (sealP (s.bs.map Bind.name))
noncomputable def Sig.stampR (s : Sig) : Ty := sealP (s.bs.map Bind.name) s.res
theorem Sig.Fair.pl {s : Sig} (f : s.Fair) : s.ps.length ≤ 1048576 ∧ s.bs.length ≤ 1048576 := by have := f.slim.len; omega
theorem stamp11 (s : Sig) (f : s.Fair) (hb : s.bs.length ≤ 1000) (h : Heap) : evw E 11 [.agg s.cells] h = some (.ret (.tup [.sl 5 (s.stampL.map Ty.cells), .agg s.stampR.cells]), h) := by
  obtain ⟨hp, _⟩ := f.pl
  have hn : (s.bs.map Bind.name).length ≤ maxLen := by rw [List.length_map]; exact Nat.le_trans hb (by decide)
  have hpl : s.pty.length ≤ 1048576 := Sig.pty_len f
  have loop : ∀ (y0 y1 y2 y3 : AV) (x8 x9 x10 x14 x15 x16 x17 x18 : AV) (w0 w1 : Nat) (u0 u1 : List (List AV)) (q i : Nat) (z : List Ty), i ≤ s.pty.length → s.pty.length < q + i → z.length + (s.pty.length - i) ≤ 1048576 →
      Lp11_0 (evw E) (s.pty.length + 1) h q h (s.cells.getD 0 .dead) (s.cells.getD 1 .dead) (s.cells.getD 2 .dead) (s.cells.getD 3 .dead) (s.cells.getD 4 .dead) (s.cells.getD 5 .dead) (s.cells.getD 6 .dead) (s.cells.getD 7 .dead) y0 y1 y2 w0 u0 w1 u1 (.sl 1 ((s.bs.map Bind.name).map strC)) 5 (z.map Ty.cells) 5 (s.pty.map Ty.cells) (.lit (.int .i64 (s.pty.length : Int))) (.lit (.int .i64 (i : Int))) = some (.ret (.tup [.sl 5 ((z ++ (s.pty.drop i).map (sealP (s.bs.map Bind.name))).map Ty.cells), .agg s.stampR.cells]), h) := by
    intro y0 y1 y2 y3 x8 x9 x10 x14 x15 x16 x17 x18 w0 w1 u0 u1 q
    induction q with
    | zero => intro i z h1 h2; omega
    | succ q ih =>
      intro i z h1 h2 h3
      rw [Lp11_0_succ, bin_int, lssI, bind_some', boolB, bind_some']
      by_cases hi : i < s.pty.length
      · have hm := f.pty _ (List.getElem_mem hi)
        rw [ltT hi, condT, indexA_map _ _ _ _ hi, bind_some', partA_full (Ty.cells_len _), bind_some', aggS, bind_some', Ty.cells_len, b5, condT, Ty.refold, stamp36 _ hn _ _ hm.1 (by have := hm.2; omega), onOut_ret, aggS, bind_some', Ty.cells_len, b5, condT, List.length_map, Bool.true_and, bleA (by simp; omega), condT, bin_int, addI, bind_some', incI (by omega), Ty.refold, tyL_snoc, ih (i + 1) _ hi (by omega) (by simp; omega), List.drop_eq_getElem_cons hi, List.map_cons (f := sealP _), List.append_assoc z]
        rfl
      · rw [ltF hi, condF, Sig.re3, stamp36 _ hn _ _ f.res.1 (by have := f.res.2; omega), onOut_ret, aggS, bind_some', Ty.cells_len, b5, condT, Ty.refold, List.drop_of_length_le (by omega), List.map_nil, List.append_nil]
        rfl
  refine evw_run primsC (s.pty.length + 1) rfl rfl rfl ?_
  rw [nf11, aggS, bind_some', Sig.len, b8, condT, Sig.re, Sig.c1, names16 _ hb, onOut_ret, types29 s hp, onOut_own, lenA24, bind_some', List.length_map, ← Sig.c1]
  have := loop (.lit (.int .i64 0)) (.lit (.int .i64 0)) (.lit (.string ByteArray.empty)) (.sl 1 []) (.sl 1 []) (.sl 1 []) (.sl 1 []) (.sl 1 []) (.sl 1 []) (.sl 1 []) (.sl 1 []) (.sl 1 []) 1 5 [] [] (s.pty.length + 1) 0 [] (Nat.zero_le _) (by omega) (by simp; omega)
  rw [List.drop_zero] at this
  exact this
/- what is wrong -/
noncomputable def Sig.check (s : Sig) : Int := bif !s.good then 21 else bif s.bs.any (fun b => b.ty.has 6) then 11 else bif !((s.pty ++ [s.res]).all (inB s.bs)) then 19 else 0
theorem idxP_any (P : Bind → Bool) : ∀ (l : List Bind) (k : Int), 0 ≤ k → decide (idxP P l k ≥ 0) = l.any P
  | [], k, _ => rfl
  | b :: r, k, h => by
    rw [idxP, List.any_cons]
    cases P b with
    | true => rw [cond_true, Bool.true_or]; simpa using h
    | false => rw [cond_false, Bool.false_or, idxP_any P r (k + 1) (by omega)]
theorem within44 (s : Sig) (f : s.Fair) (hb : s.bs.length ≤ 1000) (l : List Ty) (hl : l.length ≤ maxLen) (ol : ∀ t ∈ l, t.Ok ∧ t.pre.length ≤ 1048576) (h : Heap) : evw E 44 [.agg s.cells, .sl 5 (l.map Ty.cells)] h = some (.ret (.lit (.bool (l.all (inB s.bs)))), h) := by
  refine evw_run primsC 0 rfl rfl rfl ?_
  have hc : [Cell.v (s.cells.getD 0 .dead), .v (s.cells.getD 1 .dead), .v (s.cells.getD 2 .dead), .v (s.cells.getD 3 .dead), .v (s.cells.getD 4 .dead), .v (s.cells.getD 5 .dead), .v (s.cells.getD 6 .dead), .v (s.cells.getD 7 .dead)] = s.cells.map .v := by
    show [s.cells.getD 0 .dead, s.cells.getD 1 .dead, s.cells.getD 2 .dead, s.cells.getD 3 .dead, s.cells.getD 4 .dead, s.cells.getD 5 .dead, s.cells.getD 6 .dead, s.cells.getD 7 .dead].map Cell.v = _
    rw [Sig.re]
  have h0 : hpart false 1 1 h.length (h ++ [s.cells.map .v]) = some (.sl 6 (s.bs.map Bind.cells)) := by rw [hpart_app0]; rfl
  have ha := any_spec (fun t => !inB s.bs t) (.fn 73 [] [.hp h.length 0]) (h ++ [s.cells.map .v]) l hl fun a ha => by
    rw [applyS]
    show evw E 73 [.agg a.cells, .hp h.length 0] _ = _
    refine evw_run primsC 0 rfl rfl rfl ?_
    rw [nf73, aggS, bind_some', Ty.cells_len, b5, condT, h0, bind_some', Ty.refold, in18 _ hb _ (ol a ha).1 (ol a ha).2, onOut_ret, notB, bind_some']
  rw [nf44, aggS, bind_some', Sig.len, b8, condT, hc, ha, onOut_ret, notB, bind_some', trunc_app (H := E.hint 44) (by kernel_rfl) (lt_bool _ _)]
  rw [List.all_eq_not_any_not]
theorem check15 (s : Sig) (f : s.Fair) (hb : s.bs.length ≤ 1000) (h : Heap) : evw E 15 [.agg s.cells] h = some (.ret (.lit (.int .i64 s.check)), h) := by
  obtain ⟨hp, _⟩ := f.pl
  have hpl : s.pty.length ≤ 1048576 := Sig.pty_len f
  have hm : maxLen = 9223372036854775807 := rfl
  refine evw_run primsC 0 rfl rfl rfl ?_
  have h43 : evw E 43 [.sl 6 (s.bs.map Bind.cells), .fn 41 [] []] h = some (.ret (.lit (.bool (s.bs.any fun b => b.ty.has 6))), h) := by
    refine evw_run primsC 0 rfl rfl rfl ?_
    rw [nf43, index55 (fun b => b.ty.has 6) _ h s.bs (by omega) (fun b hb => by
      rw [applyS]
      show evw E 41 [.agg b.cells] _ = _
      refine evw_run primsC 0 rfl rfl rfl ?_
      rw [nf41, aggS, bind_some', Bind.len, b6, condT, Bind.re1, has34 _ (f.ok.bs b hb).ty, onOut_ret]), onOut_ret, bin_int, geqI, bind_some', idxP_any _ _ _ (by omega)]
  have hw := within44 s f hb (s.pty ++ [s.res]) (by rw [List.length_append, List.length_singleton]; omega) (fun t ht => by
    rcases List.mem_append.1 ht with e | e
    · have := f.pty t e; exact ⟨this.1, by omega⟩
    · rw [List.mem_singleton.1 e]; have := f.res; exact ⟨this.1, by omega⟩) h
  rw [nf15, aggS, bind_some', Sig.len, b8, condT, Sig.re, right13 s f.ok f.slim, onOut_ret, notB, bind_some', boolB, bind_some', Sig.c1, h43, onOut_ret, boolB, bind_some', types29 s hp, onOut_own, Sig.re3, List.length_map, b5, Bool.true_and, bleA (by simp; omega), condT, tyL_snoc, hw, onOut_ret, notB, bind_some', boolB, bind_some']
  unfold Sig.check
  cases s.good <;> cases s.bs.any (fun b => b.ty.has 6) <;> cases (s.pty ++ [s.res]).all (inB s.bs) <;> rfl
end Go.Sh.T

/- The document's Check, Base; SigTells. -/
namespace Go.Sh.T
open Go Go.Sh
set_option linter.unusedSimpArgs false
set_option linter.unusedVariables false
set_option maxRecDepth 1000000

/- Base -/
def plainT (k : Int) : Ty := ⟨k, 0, ByteArray.empty, [], []⟩
def Ty.base (t : Ty) : Bool := t.right && (t.k == 1 || (t.k == 2 || t.k == 3))
theorem plainT_cells (k : Int) : (plainT k).cells = [.lit (.int .i64 k), .lit (.int .i64 0), .lit (.string ByteArray.empty), .sl 1 [], .sl 5 []] := by rw [Ty.cells_eq]; rfl
/- awake -/
abbrev bX : ByteArray := ⟨#[88]⟩
abbrev cX : List AV := [.lit (.int .i64 6), .lit (.int .i64 0), .lit (.string bX), .sl 1 [], .sl 5 []]
abbrev cI : List AV := [.lit (.int .i64 1), .lit (.int .i64 0), .lit (.string ByteArray.empty), .sl 1 [], .sl 5 []]
abbrev cT : List AV := [.lit (.int .i64 4), .lit (.int .i64 0), .lit (.string ByteArray.empty), .sl 1 [], .sl 5 []]
abbrev cS : List AV := [.lit (.string ⟨#[102]⟩), .sl 6 [[.lit (.string bX), .lit (.int .i64 4), .lit (.int .i64 0), .lit (.string ByteArray.empty), .sl 1 [], .sl 5 []]], .sl 6 [[.lit (.string ⟨#[120]⟩), .lit (.int .i64 6), .lit (.int .i64 0), .lit (.string bX), .sl 1 [], .sl 5 []]], .lit (.int .i64 6), .lit (.int .i64 0), .lit (.string bX), .sl 1 [], .sl 5 []]
def tX : Ty := ⟨6, 0, bX, [], []⟩
def s0 : Sig := ⟨⟨#[102]⟩, [⟨bX, plainT 4⟩], [⟨⟨#[120]⟩, tX⟩], tX⟩
theorem plain_ok (k : Int) (hk : (Lit.int .i64 k).wf = true) : (plainT k).Ok := .mk hk (show (Lit.int .i64 0).wf = true by decide) (Nat.zero_le _) (Nat.zero_le _) (fun _ h => by cases h) (Nat.zero_le _) (fun _ h => by cases h)
theorem tX_ok : tX.Ok := .mk (show (Lit.int .i64 6).wf = true by decide) (show (Lit.int .i64 0).wf = true by decide) (show (1 : Nat) ≤ maxLen by decide) (Nat.zero_le _) (fun _ h => by cases h) (Nat.zero_le _) (fun _ h => by cases h)
theorem s0_cells : s0.cells = cS := by
  unfold Sig.cells s0
  simp only [List.map_cons, List.map_nil, Bind.cells, Ty.cells_eq]
  rfl
theorem s0_fair : s0.Fair := by
  have hp : ∀ t ∈ s0.tys, t.pre.length ≤ 400 := by
    intro t ht
    unfold Sig.tys s0 at ht
    simp only [List.map_cons, List.map_nil, List.mem_append, List.mem_cons, List.not_mem_nil, or_false] at ht
    rcases ht with rfl | rfl | rfl <;> decide
  refine ⟨⟨show (1 : Nat) ≤ maxLen by decide, show (1 : Nat) ≤ maxLen by decide, fun b hb => ?_, show (1 : Nat) ≤ maxLen by decide, fun b hb => ?_, tX_ok⟩, ⟨show (2 : Nat) ≤ 1048576 by decide, fun t ht => Nat.le_trans (hp t ht) (by decide)⟩, hp⟩
  · rw [List.mem_singleton.1 hb]; exact ⟨show (1 : Nat) ≤ maxLen by decide, plain_ok 4 (by decide)⟩
  · rw [List.mem_singleton.1 hb]; exact ⟨show (1 : Nat) ≤ maxLen by decide, tX_ok⟩
theorem fitX : fitP [⟨bX, plainT 1⟩] tX = some (plainT 1) := by
  unfold fitP
  have h1 : putF [⟨bX, plainT 1⟩] tX = some (plainT 1) := by
    unfold putF
    rw [show eqd tX.k 6 = true from eqd_self _, cond_true]
    show (bif strEq bX bX then some (plainT 1) else findB [] bX) = _
    rw [strEq_iff.2 rfl]; rfl
  rw [Ty.put_eq, h1]
  rfl
theorem inst_s0 : instP s0 [plainT 1] = ([plainT 1], plainT 1, 0) := by
  unfold instP
  have hz : zipB s0.bs [plainT 1] = [⟨bX, plainT 1⟩] := rfl
  have ha : allP [⟨bX, plainT 1⟩] s0.pty = some [plainT 1] := by
    show allP [⟨bX, plainT 1⟩] [tX] = _
    rw [allP, fitX, allP]; rfl
  rw [show eqd (([plainT 1] : List Ty).length : Int) (s0.bs.length : Int) = true from eqd_self _, hz, ha, show s0.res = tX from rfl, fitX]
  rfl
theorem h8 : evw E 8 [.agg cS, .sl 5 [cI]] [] = some (.ret (.tup [.sl 5 [cI], .agg cI, .lit (.int .i64 0)]), []) := by
  have := inst8 s0 s0_fair [plainT 1] (fun t ht => by rw [List.mem_singleton.1 ht]; exact plain_ok 1 (by decide)) (fun t ht => by rw [List.mem_singleton.1 ht]; decide) []
  rw [s0_cells, inst_s0] at this
  unfold triple at this
  simp only [List.map_cons, List.map_nil, plainT_cells] at this
  exact this
theorem h25 : evw E 25 [.lit (.string bX)] [] = some (.ret (.agg cX), []) := evk 9 (by kernel_rfl)
theorem h26 : evw E 26 [.lit (.int .i64 1)] [] = some (.ret (.agg cI), []) := evk 9 (by kernel_rfl)
theorem h27 : evw E 27 [] [] = some (.ret (.agg cT), []) := evk 9 (by kernel_rfl)
theorem h11 : evw E 11 [.agg cS] [] = some (.ret (.tup [.sl 5 [[.lit (.int .i64 9), .lit (.int .i64 0), .lit (.string ByteArray.empty), .sl 1 [], .sl 5 []]], .agg [.lit (.int .i64 9), .lit (.int .i64 0), .lit (.string ByteArray.empty), .sl 1 [], .sl 5 []]]), []) := evk 40 (by kernel_rfl)
theorem h15 : evw E 15 [.agg cS] [] = some (.ret (.lit (.int .i64 0)), []) := evk 60 (by kernel_rfl)
theorem h19 : evw E 19 [.agg cI] [] = some (.ret (.lit (.bool true)), []) := evk 40 (by kernel_rfl)
theorem h19' : evw E 19 [.agg cX] [] = some (.ret (.lit (.bool false)), []) := evk 40 (by kernel_rfl)
theorem c5 {α : Type} (a b c d e : AV) (x y : α) : cond (Nat.beq ([a, b, c, d, e] : List AV).length 5) x y = x := rfl
theorem g5 (a b c d e : AV) : ([a, b, c, d, e].getD 0 .dead) = a ∧ ([a, b, c, d, e].getD 1 .dead) = b ∧ ([a, b, c, d, e].getD 2 .dead) = c ∧ ([a, b, c, d, e].getD 3 .dead) = d ∧ ([a, b, c, d, e].getD 4 .dead) = e := ⟨rfl, rfl, rfl, rfl, rfl⟩
theorem t3 (a b c : AV) : ([a, b, c] : List AV)[0]? = some a ∧ ([a, b, c] : List AV)[1]? = some b ∧ ([a, b, c] : List AV)[2]? = some c := ⟨rfl, rfl, rfl⟩
theorem ix0 (a : List AV) : indexA 5 (.sl 5 [a]) (.lit (.int .i64 0)) = some a := (Eq.refl _).trans rfl
theorem p0' (a b c d e : AV) (h : AV.one a = true) : partA false 1 0 ([a, b, c, d, e].drop 0) = some a := by
  show partA false 1 0 [a, b, c, d, e] = _
  unfold partA
  rfl
theorem awake7 : evw E 7 [] [] = some (.ret (.lit (.bool true)), []) := by
  refine evw_run primsC 0 rfl rfl rfl ?_
  rw [nf7, h25, onOut_ret, h26, onOut_ret, aggS, bind_some', c5, aggS, bind_some', c5, h27, onOut_ret, aggS, bind_some', c5]
  simp only [(g5 _ _ _ _ _).1, (g5 _ _ _ _ _).2.1, (g5 _ _ _ _ _).2.2.1, (g5 _ _ _ _ _).2.2.2.1, (g5 _ _ _ _ _).2.2.2.2]
  rw [h8, onOut_ret, tupS, bind_some', (t3 _ _ _).1, bind_some', bind_some', (t3 _ _ _).2.1, bind_some', bind_some', (t3 _ _ _).2.2, bind_some', aggS, bind_some', c5, h11, onOut_ret, tupS, bind_some', t20, bind_some', bind_some', t21, bind_some', aggS, bind_some', c5, h15, onOut_ret]
  simp only [(g5 _ _ _ _ _).1, bin_int, eqlI, bind_some', boolB, lenA24, List.length_singleton, ix0, p0' _ _ _ _ _ (show AV.one (.lit (.int .i64 _)) = true from rfl), List.length_cons, List.length_nil]
  simp only [h19, h19', onOut_ret, boolB, bind_some', notB]
  rfl
end Go.Sh.T

/- SigTells. -/
namespace Go.Sh.T
open Go Go.Sh
set_option linter.unusedSimpArgs false
set_option linter.unusedVariables false
set_option maxRecDepth 100000

theorem sig_few_len (s : Sig) (hv : volC s.cells ≤ 1048576) (h : decide (Def.all ⟨s, zeroE⟩ > 400) = false) : s.bs.length ≤ 400 := by
  have h := of_decide_eq_false h
  have h0 := s.vol_bs
  have hb := volE_len Bind.cells Bind.vol1 s.bs
  have hp := volE_len Bind.cells Bind.vol1 s.ps
  have hn : s.name.size ≤ volC s.cells := by rw [Sig.volC_eq]; omega
  have hr : s.res.vol = volC s.res.cells := rfl
  have hz : zeroE.much = 1 := by decide +kernel
  obtain ⟨a1, a2, a3⟩ := bindsL_of s.bs s.bs.length (by omega) (by omega) (by omega)
  obtain ⟨b1, b2, b3⟩ := bindsL_of s.ps s.ps.length (by omega) (by omega) (by omega)
  obtain ⟨c1, c2, c3⟩ := much_of s.res (by omega)
  obtain ⟨q0, q1⟩ := quo8_of (s := s.name) (by omega)
  unfold Def.all at h
  simp only [hz] at h
  rw [add64_of (x := 1) (by omega) (by omega), add64_of (x := 1 + _) (by omega) (by omega), add64_of (x := 1 + _ + _) (by omega) (by omega), add64_of (by omega) (by omega)] at h
  omega
theorem few_len {d : List Bind} {k : Int} (hk : k < 5000) (h : decide (few16 d > k) = false) : d.length ≤ 20 := by
  unfold few16 at h
  by_cases hl : (d.length : Int) > 20
  · rw [decide_eq_true hl, cond_true] at h; exact absurd (of_decide_eq_false h) (by omega)
  · omega

/- what comes out is well made -/
theorem fit_eq {m : List Bind} {t u : Ty} (h : fitP m t = some u) : u = t.put (putF m) ∧ u.pre.length ≤ 300 := by
  unfold fitP Ty.fit at h
  cases hd : decide (((t.put (putF m)).pre.length : Int) ≤ 300) with
  | false => rw [hd] at h; cases h
  | true => rw [hd, cond_true] at h; cases h; exact ⟨rfl, by have := of_decide_eq_true hd; omega⟩
theorem fit_ok {m : List Bind} (s : Small m) {t : Ty} (ok : t.Ok) : ((fitP m t).getD nilT).Ok := by
  cases h : fitP m t with
  | none => exact nilT_ok
  | some u => rw [Option.getD_some, (fit_eq h).1]; exact Ty.put_ok _ (fun x u e => (s.put x u e).1) t ok
theorem allP_mem {m : List Bind} : ∀ {l r : List Ty}, allP m l = some r → r.length = l.length ∧ ∀ (i : Nat) (h1 : i < l.length) (h2 : i < r.length), fitP m l[i] = some r[i]
  | [], r, h => by rw [allP] at h; cases h; exact ⟨rfl, fun i h1 => by simp at h1⟩
  | t :: l, r, h => by
    rw [allP] at h
    cases hf : fitP m t with
    | none => rw [hf] at h; cases h
    | some u =>
      rw [hf] at h
      obtain ⟨q, hq, rfl⟩ := Option.map_eq_some_iff.1 h
      obtain ⟨h1, h2⟩ := allP_mem hq
      refine ⟨by simp [h1], fun i k1 k2 => ?_⟩
      cases i with
      | zero => exact hf
      | succ i => exact h2 i (by simpa using k1) (by simpa using k2)
theorem allP_ok {m : List Bind} (s : Small m) {l : List Ty} (ol : ∀ t ∈ l, t.Ok) : ∀ u ∈ (allP m l).getD [], u.Ok := by
  intro u hu
  cases h : allP m l with
  | none => rw [h] at hu; cases hu
  | some r =>
    rw [h, Option.getD_some] at hu
    obtain ⟨h1, h2⟩ := allP_mem h
    obtain ⟨i, hi, rfl⟩ := List.getElem_of_mem hu
    have := h2 i (by omega) hi
    have ho := fit_ok s (ol _ (List.getElem_mem (by omega : i < l.length)))
    rw [this, Option.getD_some] at ho
    exact ho
theorem allP_len {m : List Bind} {l : List Ty} : ((allP m l).getD []).length ≤ l.length := by
  cases h : allP m l with
  | none => exact Nat.zero_le _
  | some r => rw [Option.getD_some, (allP_mem h).1]; exact Nat.le_refl _
theorem instP_ok {s : Sig} (f : s.Fair) {A : List Ty} (oA : ∀ t ∈ A, t.Ok) (hA : ∀ t ∈ A, t.pre.length ≤ 1048576) : ((instP s A).1.length ≤ maxLen ∧ ∀ u ∈ (instP s A).1, u.Ok) ∧ (instP s A).2.1.Ok := by
  have sm := small_zip f oA hA
  have hp := Sig.pty_len f
  have hm : maxLen = 9223372036854775807 := rfl
  have h0 : ((([] : List Ty), nilT, (16 : Int)).1.length ≤ maxLen ∧ ∀ u ∈ (([] : List Ty), nilT, (16 : Int)).1, u.Ok) ∧ nilT.Ok := ⟨⟨Nat.zero_le _, fun u hu => by cases hu⟩, nilT_ok⟩
  unfold instP
  cases eqd (A.length : Int) (s.bs.length : Int) with
  | false => exact h0
  | true =>
    cases h1 : (allP (zipB s.bs A) s.pty).isSome with
    | false => exact h0
    | true =>
      cases h2 : (fitP (zipB s.bs A) s.res).isSome with
      | false => exact h0
      | true =>
        refine ⟨⟨?_, allP_ok sm fun t ht => (f.pty t ht).1⟩, fit_ok sm f.res.1⟩
        have := allP_len (m := zipB s.bs A) (l := s.pty)
        show ((allP (zipB s.bs A) s.pty).getD []).length ≤ maxLen
        omega
theorem idxR_bd : ∀ (l : List ByteArray) (i : Int) (s : ByteArray), 0 ≤ i → -1 ≤ idxR l i s ∧ idxR l i s ≤ i + l.length
  | [], i, s, h => by rw [idxR]; simp; omega
  | x :: r, i, s, h => by
    rw [idxR, List.length_cons]
    cases strEq x s with
    | true => rw [cond_true]; omega
    | false => rw [cond_false]; have := idxR_bd r (i + 1) s (by omega); omega
theorem wf_of {k : Int} (h1 : -1 ≤ k) (h2 : k ≤ 9000000000) : (Lit.int .i64 k).wf = true := by
  show (decide ((-9223372036854775808 : Int) ≤ k) && decide (k ≤ 9223372036854775807)) = true
  rw [Bool.and_eq_true, decide_eq_true_eq, decide_eq_true_eq]; omega
theorem stamp_ok {ns : List ByteArray} (hn : ns.length ≤ 1048576) {t : Ty} (ok : t.Ok) : (sealP ns t).Ok := by
  unfold sealP
  cases decide ((0 : Int) > sub64 1073741824 ns.length) with
  | true => exact ok
  | false =>
    rw [cond_false]
    refine Ty.put_ok _ (fun x u h => ?_) t ok
    unfold sealF at h
    cases hk : eqd x.k 6 with
    | false => rw [hk] at h; cases h
    | true =>
      rw [hk, cond_true] at h
      cases hd : decide (idxR ns 0 x.name ≥ 0) with
      | false => rw [hd] at h; cases h
      | true =>
        rw [hd, cond_true] at h
        cases h
        obtain ⟨b1, b2⟩ := idxR_bd ns 0 x.name (by omega)
        rw [add64_of (by omega) (by omega)]
        exact .mk (show (Lit.int .i64 9).wf = true by decide) (wf_of (k := 0 + idxR ns 0 x.name) (by omega) (by omega)) (Nat.zero_le _) (Nat.zero_le _) (fun _ h => by cases h) (Nat.zero_le _) (fun _ h => by cases h)

theorem sig_vol {s : Sig} {m : Nat} (h : volC s.cells ≤ m) (hm : m ≤ 1048576) : volC s.cells ≤ 1048576 := Nat.le_trans h hm
theorem bs_vol {d : List Bind} {m : Nat} (h : volC [.sl 6 (d.map Bind.cells)] ≤ m) (hm : m ≤ 1048576) : volC [.sl 6 (d.map Bind.cells)] ≤ 1048576 := Nat.le_trans h hm
theorem args_pre {d : List Bind} (h : volC [.sl 6 (d.map Bind.cells)] ≤ 1048576) : ∀ t ∈ d.map Bind.ty, t.pre.length ≤ 1048576 := fun t ht => by
  obtain ⟨b, hb, rfl⟩ := List.mem_map.1 ht
  have h1 := Ty.pre_vol b.ty
  have h2 := volE_mem Bind.cells d b hb
  have h3 := b.vol
  have h4 : volC [.sl 6 (d.map Bind.cells)] = Sh.vol (.sl 6 (d.map Bind.cells)) + 0 := (Eq.refl _).trans rfl
  have h5 : volE (d.map Bind.cells) ≤ Sh.vol (.sl 6 (d.map Bind.cells)) := by simp only [Sh.vol]; omega
  omega
end Go.Sh.T

/- Sealed and opened. -/
namespace Go.Sh.T
open Go Go.Sh
set_option linter.unusedSimpArgs false
set_option linter.unusedVariables false
set_option linter.unusedSectionVars false
set_option maxRecDepth 100000

noncomputable def openF (A : List Ty) (t : Ty) : Option Ty := bif eqd t.k 9 && decide (t.n ≥ 0) then A[t.n.toNat]? else none
theorem i64_of {k : Int} (h : (Lit.int .i64 k).wf = true) : sub64 k 0 = k := by
  have h : (decide ((-9223372036854775808 : Int) ≤ k) && decide (k ≤ 9223372036854775807)) = true := h
  rw [Bool.and_eq_true, decide_eq_true_eq, decide_eq_true_eq] at h
  unfold sub64
  rw [Int.sub_zero, IntWalk.i64_in _ (by omega)]
theorem indexA_nat (l : List Ty) (k : Int) (h0 : 0 ≤ k) (h1 : k.toNat < l.length) : indexA 5 (.sl 5 (l.map Ty.cells)) (.lit (.int .i64 k)) = some (l[k.toNat]).cells := by
  have := indexA_map l Ty.cells 5 k.toNat h1
  rwa [show ((k.toNat : Nat) : Int) = k from Int.toNat_of_nonneg h0] at this
theorem opened50 (A : List Ty) : ∀ (t : Ty) (h : Heap), t.Ok → t.pre.length ≤ 1048576 → evw E 50 [.agg t.cells, .lit (.int .i64 0), .sl 5 (A.map Ty.cells)] h = some (.ret (.agg (t.put (openF A)).cells), h)
  | t, h, ok, hv => by
    have hlen : t.args.length ≤ 9223372036854775807 := ok.len
    have hpe : t.pre = t :: Ty.preL t.args := by cases t; rw [Ty.pre]
    rw [hpe, List.length_cons] at hv
    have hal := preL_len t.args
    have hwf : (Lit.int .i64 t.n).wf = true := by cases ok with | mk _ hn _ _ _ _ _ => exact hn
    have loop : ∀ (H0 : Heap) (x0 x1 x2 x3 y0 y1 y2 : AV) (z1 z2 : List (List AV)) (x5 x6 x7 x8 : AV) (q i : Nat) (acc : List Ty), i ≤ t.args.length → t.args.length < q + i → acc.length + (t.args.length - i) ≤ 1048576 →
        Lp50_0 (evw E) (t.args.length + 1) H0 q h (.lit (.int .i64 0)) (.sl 5 (A.map Ty.cells)) x0 x1 x2 x3 (.sl 5 (t.args.map Ty.cells)) y0 y1 y2 z1 z2 x5 x6 x7 x8 (acc.map Ty.cells) (.lit (.int .i64 (i : Int))) = some (.ret (.agg [x5, x6, x7, x8, .sl 5 ((acc ++ Ty.putL (openF A) (t.args.drop i)).map Ty.cells)]), h) := by
      intro H0 x0 x1 x2 x3 y0 y1 y2 z1 z2 x5 x6 x7 x8 q
      induction q with
      | zero => intro i acc h1 h2; omega
      | succ q ih =>
        intro i acc h1 h2 h3
        rw [Lp50_0_succ, lenA24, bind_some', List.length_map, bin_int, lssI, bind_some', boolB, bind_some']
        by_cases hi : i < t.args.length
        · have hmem := List.getElem_mem hi
          have hrec := opened50 A (t.args[i]) h (ok.arg hmem) (by have := Ty.preL_mem t.args _ hmem; omega)
          rw [ltT hi, condT, indexA_map _ _ _ _ hi, bind_some', partA_full (Ty.cells_len _), bind_some', hrec, onOut_ret, aggS, bind_some', Ty.cells_len, b5, condT, List.length_map, bleA (by simp; omega), condT, bin_int, addI, bind_some', incI (by omega), Ty.refold, tyL_snoc, ih (i + 1) _ hi (by omega) (by simp; omega), List.drop_eq_getElem_cons hi, Ty.putL, List.append_assoc]
          rfl
        · rw [ltF hi, condF, List.drop_of_length_le (by omega), Ty.putL, List.append_nil]
    refine evw_run primsC (t.args.length + 1) rfl rfl rfl ?_
    have fin := fun y0 y1 y2 z1 z2 => loop h (.lit (.int .i64 t.k)) (.lit (.int .i64 t.n)) (.lit (.string t.name)) (.sl 1 (t.labels.map strC)) y0 y1 y2 z1 z2 (.lit (.int .i64 t.k)) (.lit (.int .i64 t.n)) (.lit (.string t.name)) (.sl 1 (t.labels.map strC)) (t.args.length + 1) 0 [] (Nat.zero_le _) (by omega) (by simp; omega)
    rw [List.drop_zero] at fin
    rw [nf50, aggS, bind_some', Ty.cells_len, b5, condT, Ty.c0, Ty.c1, Ty.c2, Ty.c3, Ty.c4, bin_int, eqlE, bind_some', boolB, bind_some', Ty.put_eq]
    unfold openF
    cases eqd t.k 9 with
    | false => rw [condF, Bool.false_and, cond_false]; exact (fin _ _ _ _ _).trans (by rw [mkT_cells]; rfl)
    | true =>
      rw [condT, Bool.true_and, bin_int, geqI, bind_some', boolB, bind_some']
      cases hd : decide (t.n ≥ 0) with
      | false => rw [condF, cond_false]; exact (fin _ _ _ _ _).trans (by rw [mkT_cells]; rfl)
      | true =>
        have h0 := of_decide_eq_true hd
        rw [condT, cond_true, bin_int, subI, bind_some', i64_of hwf, lenA24, bind_some', List.length_map, bin_int, lssI, bind_some', boolB, bind_some']
        by_cases hl : t.n.toNat < A.length
        · rw [decide_eq_true (by omega : t.n < (A.length : Int)), condT, bind_some', indexA_nat A t.n h0 hl, bind_some', partA_full (Ty.cells_len _), bind_some', aggS, bind_some', Ty.cells_len, b5, condT, Ty.refold, List.getElem?_eq_getElem hl]
        · rw [decide_eq_false (by omega : ¬ t.n < (A.length : Int)), condF, List.getElem?_eq_none (by omega)]
          exact (fin _ _ _ _ _).trans (by rw [mkT_cells]; rfl)
  termination_by t => SizeOf.sizeOf t
  decreasing_by exact Ty.size_arg hi
theorem open22 (A : List Ty) (t : Ty) (ok : t.Ok) (hv : t.pre.length ≤ 1048576) (ok2 : (t.put (openF A)).Ok) (hv2 : (t.put (openF A)).pre.length ≤ 4294967296) (h : Heap) : evw E 22 [.agg t.cells, .lit (.int .i64 0), .sl 5 (A.map Ty.cells)] h = some (.ret (.tup [.agg ((t.put (openF A)).fit.getD nilT).cells, .lit (.bool (t.put (openF A)).fit.isSome)]), h) := by
  refine evw_run primsC 0 rfl rfl rfl ?_
  rw [nf22, aggS, bind_some', Ty.cells_len, b5, condT, Ty.refold, bin_int, lssI, bind_some', boolB, bind_some', show decide ((0 : Int) < 0) = false from by decide, condF, bin_int, gtrI, bind_some', boolB, bind_some', show decide ((0 : Int) > 1073741824) = false from by decide, condF, opened50 A t h ok hv, onOut_ret, fitting49 _ ok2 hv2, onOut_ret, tupS, bind_some', t20, bind_some', bind_some', t21, bind_some', aggS, bind_some', Ty.cells_len, b5, condT, Ty.refold]

/- plain law -/
theorem zip_find (s : ByteArray) : ∀ (bs : List Bind) (A : List Ty) (k : Int), A.length = bs.length → 0 ≤ k →
    (idxR (bs.map Bind.name) k s = -1 ∧ findB (zipB bs A) s = none ∧ findB bs s = none) ∨ ∃ (i : Nat) (h : i < A.length), idxR (bs.map Bind.name) k s = k + i ∧ findB (zipB bs A) s = some A[i] ∧ (findB bs s).isSome = true
  | [], [], k, _, _ => .inl ⟨rfl, rfl, rfl⟩
  | b :: r, t :: q, k, hl, hk => by
    rw [List.map_cons, idxR, zipB, findB, findB]
    show (((bif strEq b.name s then k else _) = -1 ∧ (bif strEq b.name s then some t else _) = none ∧ _) ∨ _)
    cases he : strEq b.name s with
    | true => exact .inr ⟨0, by simp, by simp, by simp, rfl⟩
    | false =>
      rw [cond_false, cond_false, cond_false]
      rcases zip_find s r q (k + 1) (by simpa using hl) (by omega) with ⟨h1, h2, h3⟩ | ⟨i, hi, h1, h2, h3⟩
      · exact .inl ⟨h1, h2, h3⟩
      · exact .inr ⟨i + 1, by simpa using hi, by rw [h1]; omega, by simpa using h2, h3⟩
theorem Ty.put_none {f : Ty → Option Ty} {t : Ty} (h : f t = none) : t.put f = ⟨t.k, t.n, t.name, t.labels, Ty.putL f t.args⟩ := by rw [Ty.put_eq, h]
theorem Ty.put_some {f : Ty → Option Ty} {t u : Ty} (h : f t = some u) : t.put f = u := by rw [Ty.put_eq, h]
section
variable (bs : List Bind) (A : List Ty) (hl : A.length = bs.length) (hn : bs.length ≤ 1048576)
include hl hn
mutual
theorem open_stamp : ∀ x : Ty, x.has 9 = false → (x.put (sealF (bs.map Bind.name))).put (openF A) = x.put (putF (zipB bs A))
  | ⟨k, n, s, ls, xs⟩, h => by
    rw [Ty.has, Bool.or_eq_false_iff] at h
    have h9 : eqd k 9 = false := by rw [← int_eqd]; exact h.1
    have hr := open_stampL xs h.2
    have deep : sealF (bs.map Bind.name) ⟨k, n, s, ls, xs⟩ = none → putF (zipB bs A) ⟨k, n, s, ls, xs⟩ = none → ((Ty.put (sealF (bs.map Bind.name)) ⟨k, n, s, ls, xs⟩).put (openF A)) = Ty.put (putF (zipB bs A)) ⟨k, n, s, ls, xs⟩ := fun e1 e2 => by
      rw [Ty.put_none e1, Ty.put_none e2]
      show Ty.put (openF A) ⟨k, n, s, ls, Ty.putL (sealF (bs.map Bind.name)) xs⟩ = _
      rw [Ty.put_none (show openF A ⟨k, n, s, ls, Ty.putL (sealF (bs.map Bind.name)) xs⟩ = none from by unfold openF; rw [h9]; rfl)]
      show (⟨k, n, s, ls, Ty.putL (openF A) (Ty.putL (sealF (bs.map Bind.name)) xs)⟩ : Ty) = _
      rw [hr]
    cases h6 : eqd k 6 with
    | false => exact deep (by unfold sealF; rw [h6]; rfl) (by unfold putF; rw [h6]; rfl)
    | true =>
      rcases zip_find s bs A 0 hl (by omega) with ⟨h1, h2, _⟩ | ⟨i, hi, h1, h2, _⟩
      · exact deep (by unfold sealF; rw [h6, cond_true]; show (bif decide (idxR (bs.map Bind.name) 0 s ≥ 0) then _ else _) = _; rw [h1]; rfl) (by unfold putF; rw [h6, cond_true]; exact h2)
      · rw [Int.zero_add] at h1
        have e1 : sealF (bs.map Bind.name) ⟨k, n, s, ls, xs⟩ = some (stampT i) := by
          unfold sealF
          rw [h6, cond_true]
          show (bif decide (idxR (bs.map Bind.name) 0 s ≥ 0) then some (stampT (add64 0 (idxR (bs.map Bind.name) 0 s))) else none) = _
          rw [h1, decide_eq_true (by omega : ((i : Int) ≥ 0)), cond_true, add64_of (by omega) (by omega), Int.zero_add]
        have e2 : putF (zipB bs A) ⟨k, n, s, ls, xs⟩ = some A[i] := by unfold putF; rw [h6, cond_true]; exact h2
        rw [Ty.put_some e1, Ty.put_some e2]
        exact Ty.put_some (show openF A (stampT i) = some A[i] from by
          unfold openF
          rw [show eqd (stampT (i : Int)).k 9 = true from eqd_self _, show decide ((stampT (i : Int)).n ≥ 0) = true from decide_eq_true (by show ((i : Int) ≥ 0); omega)]
          show A[(i : Int).toNat]? = _
          rw [Int.toNat_natCast, List.getElem?_eq_getElem hi])
theorem open_stampL : ∀ l : List Ty, Ty.hasL 9 l = false → Ty.putL (openF A) (Ty.putL (sealF (bs.map Bind.name)) l) = Ty.putL (putF (zipB bs A)) l
  | [], _ => rfl
  | t :: r, h => by
    rw [Ty.hasL, Bool.or_eq_false_iff] at h
    rw [Ty.putL, Ty.putL, Ty.putL, open_stamp t h.1, open_stampL r h.2]
end
end
mutual
theorem put_has6 (f : Ty → Option Ty) (hu : ∀ y u, f y = some u → u.has 6 = false) : ∀ x : Ty, (∀ y ∈ x.pre, y.k = 6 → (f y).isSome = true) → (x.put f).has 6 = false
  | ⟨k, n, s, ls, xs⟩, h => by
    rw [Ty.put]
    cases hf : f ⟨k, n, s, ls, xs⟩ with
    | some u => exact hu _ _ hf
    | none =>
      show Ty.has 6 ⟨k, n, s, ls, Ty.putL f xs⟩ = false
      rw [Ty.has, put_has6L f hu xs (fun y hy => h y (by rw [Ty.pre]; exact List.mem_cons_of_mem _ hy)), Bool.or_false]
      cases hk : k == 6 with
      | false => rfl
      | true =>
        have := h ⟨k, n, s, ls, xs⟩ (by rw [Ty.pre]; exact List.mem_cons_self) (by simpa using hk)
        rw [hf] at this; cases this
theorem put_has6L (f : Ty → Option Ty) (hu : ∀ y u, f y = some u → u.has 6 = false) : ∀ l : List Ty, (∀ y ∈ Ty.preL l, y.k = 6 → (f y).isSome = true) → Ty.hasL 6 (Ty.putL f l) = false
  | [], _ => rfl
  | t :: r, h => by
    rw [Ty.putL, Ty.hasL, put_has6 f hu t (fun y hy => h y (by rw [Ty.preL]; exact List.mem_append_left _ hy)), put_has6L f hu r (fun y hy => h y (by rw [Ty.preL]; exact List.mem_append_right _ hy))]; rfl
end
end Go.Sh.T

/- SigOpens. -/
namespace Go.Sh.T
open Go Go.Sh
set_option linter.unusedSimpArgs false
set_option linter.unusedVariables false
set_option maxRecDepth 100000

theorem fin_vars {bs : List Bind} {x : Ty} (h : inB bs x = true) : ∀ y ∈ x.pre, y.k = 6 → (findB bs y.name).isSome = true := by
  intro y hy hk
  unfold inB at h
  rw [List.all_eq_true] at h
  refine h _ ((Ty.rvars_mem y.name x).1 ?_)
  unfold varsN
  exact List.mem_map.2 ⟨y, List.mem_filter.2 ⟨hy, by simpa using hk⟩, rfl⟩
theorem zip_some {bs : List Bind} {A : List Ty} (hl : A.length = bs.length) {s : ByteArray} (h : (findB bs s).isSome = true) : (findB (zipB bs A) s).isSome = true ∧ decide (idxR (bs.map Bind.name) 0 s ≥ 0) = true := by
  rcases zip_find s bs A 0 hl (by omega) with ⟨_, _, h3⟩ | ⟨i, hi, h1, h2, _⟩
  · rw [h3] at h; cases h
  · exact ⟨by rw [h2]; rfl, by rw [h1]; exact decide_eq_true (by omega)⟩
theorem check_of {s : Sig} (h : s.check = 0) : s.good = true ∧ (s.pty ++ [s.res]).all (inB s.bs) = true := by
  unfold Sig.check at h
  cases h1 : s.good with
  | false => rw [h1] at h; cases h
  | true =>
    rw [h1] at h
    cases h2 : s.bs.any (fun b => b.ty.has 6) with
    | true => rw [h2] at h; cases h
    | false =>
      rw [h2] at h
      cases h3 : (s.pty ++ [s.res]).all (inB s.bs) with
      | false => rw [h3] at h; cases h
      | true => exact ⟨rfl, rfl⟩
theorem good_fine {s : Sig} (h : s.good = true) : ∀ t ∈ s.pty ++ [s.res], t.has 9 = false := by
  unfold Sig.good Def.rightB Sig.rightB at h
  simp only [Bool.and_eq_true] at h
  have h1 := h.1.2.2.2.1
  intro t ht
  have hm : t ∈ s.tys := by
    unfold Sig.tys Sig.pty at *
    exact List.mem_append_right _ ht
  have := (List.all_eq_true.1 h1) t hm
  unfold fineB at this
  simp only [Bool.and_eq_true, Bool.not_eq_true'] at this
  exact this.2
/-- What is known of each of the types. -/
structure Pair (s : Sig) (A : List Ty) (x u : Ty) : Prop where
  okx : x.Ok
  oku : u.Ok
  few : x.pre.length ≤ 400
  fit : fitP (zipB s.bs A) x = some u
  fine : x.has 9 = false
  vars : inB s.bs x = true
section
variable {s : Sig} {A : List Ty}
theorem stamp_put (hb : s.bs.length ≤ 1000) (x : Ty) : sealP (s.bs.map Bind.name) x = x.put (sealF (s.bs.map Bind.name)) := by
  unfold sealP
  rw [List.length_map, sub_in (by omega) (by omega), decide_eq_false (by omega : ¬ ((0 : Int) > 1073741824 - (s.bs.length : Int))), cond_false]
theorem stampF_le (hb : s.bs.length ≤ 1000) : ∀ y u, sealF (s.bs.map Bind.name) y = some u → u.pre.length ≤ 1 ∧ u.has 6 = false := fun y u h => by
  unfold sealF at h
  cases hk : eqd y.k 6 with
  | false => rw [hk] at h; cases h
  | true =>
    rw [hk, cond_true] at h
    cases hd : decide (idxR (s.bs.map Bind.name) 0 y.name ≥ 0) with
    | false => rw [hd] at h; cases h
    | true => rw [hd, cond_true] at h; cases h; exact ⟨Nat.le_refl 1, rfl⟩
theorem open_pair (hb : s.bs.length ≤ 1000) (hl : A.length = s.bs.length) {x u : Ty} (p : Pair s A x u) (h : Heap) : evw E 22 [.agg (sealP (s.bs.map Bind.name) x).cells, .lit (.int .i64 0), .sl 5 (A.map Ty.cells)] h = some (.ret (.tup [.agg u.cells, .lit (.bool true)]), h) := by
  have e : (sealP (s.bs.map Bind.name) x).put (openF A) = x.put (putF (zipB s.bs A)) := by rw [stamp_put hb]; exact open_stamp s.bs A hl (by omega) x p.fine
  obtain ⟨e1, e2⟩ := fit_eq p.fit
  have hn : (s.bs.map Bind.name).length ≤ 1048576 := by rw [List.length_map]; omega
  have hp : (sealP (s.bs.map Bind.name) x).pre.length ≤ 400 := by
    rw [stamp_put hb]
    have := Ty.put_len (sealF (s.bs.map Bind.name)) 1 (Nat.le_refl 1) (fun y v hh => (stampF_le hb y v hh).1) x
    have := p.few; omega
  have := open22 A _ (stamp_ok hn p.okx) (by omega) (by rw [e, ← e1]; exact p.oku) (by rw [e, ← e1]; omega) h
  rw [e] at this
  have hf : (x.put (putF (zipB s.bs A))).fit = some u := p.fit
  rw [hf] at this
  exact this
theorem stamp_closed (hb : s.bs.length ≤ 1000) (hl : A.length = s.bs.length) {x u : Ty} (p : Pair s A x u) : (sealP (s.bs.map Bind.name) x).has 6 = false := by
  rw [stamp_put hb]
  refine put_has6 _ (fun y v hh => (stampF_le hb y v hh).2) x fun y hy hk => ?_
  have := (zip_some hl (fin_vars p.vars y hy hk)).2
  unfold sealF
  rw [show eqd y.k 6 = true from by rw [hk]; exact eqd_self _, cond_true, this]; rfl
theorem pair_closed (hl : A.length = s.bs.length) (hA : ∀ t ∈ A, t.has 6 = false) {x u : Ty} (p : Pair s A x u) : u.has 6 = false := by
  rw [(fit_eq p.fit).1]
  refine put_has6 _ (fun y v hh => ?_) x fun y hy hk => ?_
  · unfold putF at hh
    cases hk : eqd y.k 6 with
    | false => rw [hk] at hh; cases hh
    | true =>
      rw [hk, cond_true] at hh
      obtain ⟨b, hb, e⟩ := findB_mem hh
      rw [← e]; exact hA _ (zipB_mem hb).2
  · have := (zip_some hl (fin_vars p.vars y hy hk)).1
    unfold putF
    rw [show eqd y.k 6 = true from by rw [hk]; exact eqd_self _, cond_true]; exact this
end
theorem loop4_1 (s : Sig) (hb : s.bs.length ≤ 1000) (d : List Bind) (hd : d.length ≤ 1048576) (hl : (d.map Bind.ty).length = s.bs.length) (X U : List Ty) (hU : U.length = X.length) (hX : X.length ≤ 1048577) (hp : ∀ i (h1 : i < X.length) (h2 : i < U.length), Pair s (d.map Bind.ty) X[i] U[i]) (c : Bool) (hc : c = true → ∀ t ∈ d.map Bind.ty, t.has 6 = false) (N : Nat) (H0 : Heap) :
    ∀ (q i : Nat), i ≤ X.length → X.length < q + i → Lp4_1 (evw E) N H0 q [] (.sl 6 (d.map Bind.cells)) (U.map Ty.cells) ((X.map (sealP (s.bs.map Bind.name))).map Ty.cells) (.lit (.bool c)) (.lit (.int .i64 (i : Int))) = some (.ret (.lit (.bool true)), []) := by
  intro q
  have hn : (s.bs.map Bind.name).length ≤ 1048576 := by rw [List.length_map]; omega
  induction q with
  | zero => intro i h1 h2; omega
  | succ q ih =>
    intro i h1 h2
    rw [Lp4_1_succ, lenA24, bind_some', List.length_map, List.length_map, bin_int, lssI, bind_some', boolB, bind_some']
    by_cases hi : i < X.length
    · have hj : i < U.length := by omega
      have hk : i < (X.map (sealP (s.bs.map Bind.name))).length := by rw [List.length_map]; exact hi
      have p := hp i hi hj
      have ix : indexA 5 (.sl 5 ((X.map (sealP (s.bs.map Bind.name))).map Ty.cells)) (.lit (.int .i64 (i : Int))) = some (sealP (s.bs.map Bind.name) X[i]).cells := by
        rw [indexA_map _ _ _ _ hk, List.getElem_map]
      have hc6 := closed21 (sealP (s.bs.map Bind.name) X[i]) (stamp_ok hn p.okx) []
      rw [stamp_closed hb hl p] at hc6
      rw [ltT hi, condT, lenA24, bind_some', List.length_map, bin_int, lssI, bind_some', boolB, bind_some', ltT hj, condT, ix, bind_some', partA_full (Ty.cells_len _), bind_some', types9 d hd, onOut_ret, open_pair hb hl p, onOut_ret, tupS, bind_some', t20, bind_some', bind_some', t21, bind_some', aggS, bind_some', Ty.cells_len, b5, condT, notB, bind_some', boolB, bind_some', Bool.not_true, condF, indexA_map _ _ _ _ hj, bind_some', partA_full (Ty.cells_len _), bind_some', Ty.refold, same23 _ _ _ p.oku, onOut_ret, eqd_self, notB, bind_some', boolB, bind_some', Bool.not_true, condF, boolB, bind_some']
      have next : (binAV E .add 3 (.lit (.int .i64 (i : Int))) (.lit (.int .i64 1))).bind (fun r => Lp4_1 (evw E) N H0 q [] (.sl 6 (d.map Bind.cells)) (U.map Ty.cells) ((X.map (sealP (s.bs.map Bind.name))).map Ty.cells) (.lit (.bool c)) r) = some (.ret (.lit (.bool true)), []) := by
        rw [bin_int, addI, bind_some', incI (by omega)]; exact ih (i + 1) hi (by omega)
      cases hcc : c with
      | true =>
        rw [hcc] at next
        have hu6 := closed21 U[i] p.oku []
        rw [pair_closed hl (hc hcc) p] at hu6
        rw [condT, bind_some', partA_full (Ty.cells_len _), bind_some', hu6, onOut_ret, notB, bind_some', boolB, bind_some', Bool.not_false, Bool.not_true, condF, bind_some', partA_full (Ty.cells_len _), bind_some', hc6, onOut_ret, notB, bind_some', boolB, bind_some', Bool.not_false, Bool.not_true, condF]
        exact next
      | false =>
        rw [hcc] at next
        rw [condF, bind_some', partA_full (Ty.cells_len _), bind_some', hc6, onOut_ret, notB, bind_some', boolB, bind_some', Bool.not_false, Bool.not_true, condF]
        exact next
    · rw [ltF hi, condF, awake7, onOut_ret]
end Go.Sh.T

/- SigOpens, the law. -/
namespace Go.Sh.T
open Go Go.Sh
set_option linter.unusedSimpArgs false
set_option linter.unusedVariables false
set_option maxRecDepth 100000

theorem instP_cases (s : Sig) (A : List Ty) : ((instP s A).1 = [] ∧ eqd (instP s A).2.2 0 = false) ∨ ∃ l r, A.length = s.bs.length ∧ allP (zipB s.bs A) s.pty = some l ∧ fitP (zipB s.bs A) s.res = some r ∧ instP s A = (l, r, 0) := by
  unfold instP
  cases he : eqd (A.length : Int) (s.bs.length : Int) with
  | false => exact .inl ⟨rfl, eqd_f (show (16 : Int) ≠ 0 by decide)⟩
  | true =>
    have he : (A.length : Int) = (s.bs.length : Int) := eqd_iff.1 he
    cases h1 : allP (zipB s.bs A) s.pty with
    | none => exact .inl ⟨rfl, eqd_f (show (12 : Int) ≠ 0 by decide)⟩
    | some l =>
      cases h2 : fitP (zipB s.bs A) s.res with
      | none => exact .inl ⟨rfl, eqd_f (show (12 : Int) ≠ 0 by decide)⟩
      | some r => exact .inr ⟨l, r, by omega, rfl, rfl, rfl⟩
theorem slT (l : List Ty) : slOf 5 (.sl 5 (l.map Ty.cells)) = some (l.map Ty.cells) := (Eq.refl _).trans rfl
theorem sigOpens_row (s : Sig) (ok : s.Ok) (d : List Bind) (hd : d.length ≤ maxLen) (od : ∀ b ∈ d, b.Ok) (hv : volC s.cells ≤ 1048576) (hw : volC [.sl 6 (d.map Bind.cells)] ≤ 1048576) (_ : List Nat) :
    evw E 4 [.agg s.cells, .sl 6 (d.map Bind.cells)] [] = some (.ret (.lit (.bool true)), []) := by
  have hm : maxLen = 9223372036854775807 := rfl
  obtain ⟨N, hN⟩ : ∃ N, N = d.length + s.ps.length + 3 := ⟨_, rfl⟩
  refine evw_run primsC N rfl rfl rfl ?_
  rw [nf4, aggS, bind_some', Sig.len, b8, condT, Sig.re, much5 s ok, onOut_ret, bin_int, gtrI, bind_some', boolB, bind_some']
  refine cond_split (fun h1 => by rw [awake7, onOut_ret]) (fun h1 => ?_)
  have f : s.Fair := ⟨ok, s.slim hv, sig_few s hv h1⟩
  have hb : s.bs.length ≤ 1000 := Nat.le_trans (sig_few_len s hv h1) (by decide)
  rw [few16_spec d hd od, onOut_ret, bin_int, gtrI, bind_some', boolB, bind_some']
  refine cond_split (fun h1 => by rw [awake7, onOut_ret]) (fun h2 => ?_)
  have hdl := few_len (by decide) h2
  rw [check15 s f hb, onOut_ret, bin_int, neqE, bind_some', boolB, bind_some']
  refine cond_split (fun h1 => by rw [awake7, onOut_ret]) (fun h3 => ?_)
  have hc0 : s.check = 0 := by
    have : eqd s.check 0 = true := by cases h : eqd s.check 0 with | true => rfl | false => rw [h] at h3; cases h3
    exact eqd_iff.1 this
  obtain ⟨hg, hin⟩ := check_of hc0
  have hfine := good_fine hg
  have oA : ∀ t ∈ d.map Bind.ty, t.Ok := fun t ht => by obtain ⟨b, hb, rfl⟩ := List.mem_map.1 ht; exact (od b hb).ty
  have hA := args_pre hw
  have e8 := inst8 s f _ oA hA []
  unfold triple at e8
  rw [types9 d (by omega), onOut_ret, e8, onOut_ret, tupS, bind_some', (t3 _ _ _).1, bind_some', bind_some', (t3 _ _ _).2.1, bind_some', bind_some', (t3 _ _ _).2.2, bind_some', aggS, bind_some', Ty.cells_len, b5, condT, bin_int, neqE, bind_some', boolB, bind_some']
  rcases instP_cases s (d.map Bind.ty) with ⟨q1, q2⟩ | ⟨l, r, hl, ha, hr, hi⟩
  · rw [q1, q2, Bool.not_false, condT, List.map_nil, lenA24, bind_some', bin_int, eqlI, bind_some', boolB, bind_some', show (((([] : List (List AV)).length : Nat) : Int) == 0) = true from rfl, condT, awake7, onOut_ret]
  · obtain ⟨⟨k1, k2⟩, k3⟩ := instP_ok f oA hA
    rw [hi] at k1 k2 k3 ⊢
    obtain ⟨l1, l2⟩ := allP_mem ha
    have hpl : s.pty.length = s.ps.length := by unfold Sig.pty; rw [List.length_map]
    have hsl : s.stampL.length = s.pty.length := by unfold Sig.stampL; rw [List.length_map]
    have hps := f.pl.1
    show cond (!(eqd (0 : Int) 0)) _ _ = _
    rw [eqd_self, Bool.not_true, condF, stamp11 s f hb, onOut_ret, tupS, bind_some', t20, bind_some', bind_some', t21, bind_some', aggS, bind_some', Ty.cells_len, b5, condT, lenA24, bind_some', lenA24, bind_some', List.length_map, List.length_map, bin_int, neqE, bind_some', boolB, bind_some',
      show eqd ((s.stampL.length : Nat) : Int) ((l.length : Nat) : Int) = true from eqd_iff.2 (by omega), Bool.not_true, condF, Sig.c2, bind_some', lenA22, bind_some', List.length_map, bin_int, neqE, bind_some', boolB, bind_some', show eqd ((l.length : Nat) : Int) ((s.ps.length : Nat) : Int) = true from eqd_iff.2 (by omega), Bool.not_true, condF]
    -- the pairs
    have hX : (s.pty ++ [s.res]).length = s.ps.length + 1 := by rw [List.length_append, hpl]; rfl
    have hU : (l ++ [r]).length = (s.pty ++ [s.res]).length := by rw [List.length_append, List.length_append, l1]; rfl
    have hXo : ∀ t ∈ s.pty ++ [s.res], t.Ok ∧ t.pre.length ≤ 400 := fun t ht => by
      rcases List.mem_append.1 ht with e | e
      · exact f.pty t e
      · rw [List.mem_singleton.1 e]; exact f.res
    have hfit : ∀ i (h1 : i < (s.pty ++ [s.res]).length) (h2 : i < (l ++ [r]).length), fitP (zipB s.bs (d.map Bind.ty)) (s.pty ++ [s.res])[i] = some (l ++ [r])[i] := fun i h1 h2 => by
      by_cases hi : i < s.pty.length
      · rw [List.getElem_append_left hi, List.getElem_append_left (by omega)]; exact l2 i hi (by omega)
      · have e1 : i = s.pty.length := by omega
        rw [List.getElem_append_right (by omega), List.getElem_append_right (by omega)]
        simp only [List.getElem_singleton]
        exact hr
    have sm := small_zip f oA hA
    have hpair : ∀ i (h1 : i < (s.pty ++ [s.res]).length) (h2 : i < (l ++ [r]).length), Pair s (d.map Bind.ty) (s.pty ++ [s.res])[i] (l ++ [r])[i] := fun i h1 h2 => by
      have hmem := List.getElem_mem h1
      have ho := hXo _ hmem
      have hf := hfit i h1 h2
      refine ⟨ho.1, ?_, ho.2, hf, hfine _ hmem, (List.all_eq_true.1 hin) _ hmem⟩
      have := fit_ok sm ho.1
      rw [hf, Option.getD_some] at this; exact this
    have hz2 : s.stampL.map Ty.cells ++ [s.stampR.cells] = ((s.pty ++ [s.res]).map (sealP (s.bs.map Bind.name))).map Ty.cells := by
      rw [tyL_snoc, List.map_append (l₁ := s.pty)]; rfl
    have loop0 : ∀ (H0 : Heap) (q i : Nat), i ≤ d.length → d.length < q + i → Lp4_0 (evw E) N H0 q [] (.sl 6 (d.map Bind.cells)) (.sl 5 (l.map Ty.cells)) (r.cells.getD 0 .dead) (r.cells.getD 1 .dead) (r.cells.getD 2 .dead) (r.cells.getD 3 .dead) (r.cells.getD 4 .dead) (.sl 5 (s.stampL.map Ty.cells)) (s.stampR.cells.getD 0 .dead) (s.stampR.cells.getD 1 .dead) (s.stampR.cells.getD 2 .dead) (s.stampR.cells.getD 3 .dead) (s.stampR.cells.getD 4 .dead) (.lit (.bool ((d.take i).all fun b => !b.ty.has 6))) (.lit (.int .i64 (i : Int))) = some (.ret (.lit (.bool true)), []) := by
      intro H0 q
      induction q with
      | zero => intro i h1 h2; omega
      | succ q ih =>
        intro i h1 h2
        rw [Lp4_0_succ, lenA22, bind_some', List.length_map, bin_int, lssI, bind_some', boolB, bind_some']
        by_cases hi : i < d.length
        · have hall : (d.take (i + 1)).all (fun b => !b.ty.has 6) = ((d.take i).all (fun b => !b.ty.has 6) && !d[i].ty.has 6) := by
            rw [List.take_succ_eq_append_getElem hi, List.all_append, List.all_cons, List.all_nil, Bool.and_true]
          have hnext := ih (i + 1) hi (by omega)
          rw [hall] at hnext
          rw [ltT hi, condT, boolB, bind_some']
          cases hc : (d.take i).all (fun b => !b.ty.has 6) with
          | true =>
            rw [hc, Bool.true_and] at hnext
            rw [condT, indexA_map _ _ _ _ hi, bind_some', Bind.len, show Nat.ble 1 6 = true from rfl, condT, Bind.p1, bind_some', closed21 _ (od _ (List.getElem_mem hi)).ty, onOut_ret, bin_int, addI, bind_some', incI (by omega)]
            exact hnext
          | false =>
            rw [hc, Bool.false_and] at hnext
            rw [condF, bin_int, addI, bind_some', incI (by omega)]
            exact hnext
        · rw [ltF hi, condF, slT, bind_some', List.nil_append, List.length_nil, List.length_map, bleA (by omega), condT, bleA (by simp; omega), condT, slT, bind_some', List.nil_append, List.length_map, bleA (by omega), condT, bleA (by simp; omega), condT, Ty.refold, Ty.refold, tyL_snoc, hz2]
          have := loop4_1 s hb d (by omega) hl (s.pty ++ [s.res]) (l ++ [r]) hU (by omega) hpair ((d.take i).all fun b => !b.ty.has 6) (fun hc t ht => by
            obtain ⟨b, hbm, rfl⟩ := List.mem_map.1 ht
            have hi' : d.take i = d := List.take_of_length_le (by omega)
            rw [hi'] at hc
            have := (List.all_eq_true.1 hc) b hbm
            simpa using this) N H0 N 0 (Nat.zero_le _) (by omega)
          exact this
    have := loop0 [] N 0 (Nat.zero_le _) (by omega)
    rw [List.take_zero] at this
    exact this
end Go.Sh.T

/- What a row leans on. -/
namespace Go.Sh.T
open Go Go.Sh Go.Proofs
set_option linter.unusedSimpArgs false
set_option linter.unusedVariables false
def flatTs : List Nat := [3, 4, 9, 22, 23, 24, 26, 28, 45]
theorem flatTs_ok : flatAll E flatTs = true := by kernel_rfl

mutual
theorem dsz_le {H : Type} : ∀ d : DataW H, dsz d ≤ YtlaooocfbjlghaaGreat.Rows.uptoBulk d
  | .lit l => by cases l <;> simp [dsz, YtlaooocfbjlghaaGreat.Rows.uptoBulk]
  | .nil => by simp [dsz, YtlaooocfbjlghaaGreat.Rows.uptoBulk]
  | .ptr d => by simp [dsz, YtlaooocfbjlghaaGreat.Rows.uptoBulk]
  | .slice e s => by have := dszL_le e; simp only [dsz, YtlaooocfbjlghaaGreat.Rows.uptoBulk]; omega
  | .agg p => by have := dszL_le p; simp only [dsz, YtlaooocfbjlghaaGreat.Rows.uptoBulk]; omega
  | .iface _ d => by simp [dsz, YtlaooocfbjlghaaGreat.Rows.uptoBulk]
  | .map _ => by simp [dsz, YtlaooocfbjlghaaGreat.Rows.uptoBulk]
  | .held _ => by simp [dsz, YtlaooocfbjlghaaGreat.Rows.uptoBulk]
theorem dszL_le {H : Type} : ∀ l : List (DataW H), dszL l ≤ YtlaooocfbjlghaaGreat.Rows.uptoBulkAll l
  | [] => by simp [dszL, YtlaooocfbjlghaaGreat.Rows.uptoBulkAll]
  | d :: r => by have := dsz_le d; have := dszL_le r; simp only [dszL, YtlaooocfbjlghaaGreat.Rows.uptoBulkAll]; omega
end
end Go.Sh.T
