/- MaD: part of the proof: a shadow of the machine that is proved sound, and what the functions of this seat compute. Conditions: none. -/
import Derived.Test.YtnhdkbklgjfhnaaMaC
/- The law MatchLess. -/
namespace Go.Sh.T
open Go Go.Sh
set_option linter.unusedSimpArgs false
set_option linter.unusedVariables false
set_option maxRecDepth 100000

/-- The reference's Less tells what is less. -/
theorem less_true : ∀ (m : Nat) (a b : Ty) (h : Heap), SizeOf.sizeOf a < m → a.Ok → b.Ok → Ls a b → evw E 23 [.agg a.cells, .agg b.cells] h = some (.ret (.lit (.bool true)), h)
  | 0, a, b, h, hm, _, _, _ => by omega
  | m + 1, a, b, h, hm, oa, ob, hl => by
    have ih := less_true m
    have la : a.args.length ≤ 9223372036854775807 := oa.len
    cases hd : eqd b dynT with
    | true =>
      refine evw_run primsC 0 rfl rfl rfl ?_
      rw [nf23]
      simp only [aggS, bind_some', Ty.cells_len, b5, condT, Ty.refold, dyn126 b ob, hd, onOut_ret, boolB]
    | false =>
    cases hl with
    | dyn e => exact absurd e (eqd_ne hd)
    | alike g1 g2 g3 g4 g5 hall =>
      have hk : alikeB a b = true := by
        unfold alikeB
        rw [g1, g2, g3, g4, g5, eqd_self, eqd_self, eqd_self, eqd_self, eqd_self]; rfl
      have loop : ∀ (q i : Nat), i ≤ a.args.length → a.args.length < q + i → Lp23_0 (evw E) (a.args.length + 1) h q h (a.cells.getD 0 .dead) (a.cells.getD 1 .dead) (a.cells.getD 2 .dead) (a.cells.getD 3 .dead) (a.cells.getD 4 .dead) (b.cells.getD 0 .dead) (b.cells.getD 1 .dead) (b.cells.getD 2 .dead) (b.cells.getD 3 .dead) (b.cells.getD 4 .dead) (.lit (.int .i64 (i : Int))) = some (.ret (.lit (.bool true)), h) := by
        intro q
        induction q with
        | zero => intro i h1 h2; omega
        | succ q ihq =>
          intro i h1 h2
          rw [Lp23_0_succ]
          simp only [Ty.c4, lenA24, bind_some', List.length_map, bin_int, lssI, boolB]
          by_cases hi : i < a.args.length
          · have hi2 : i < b.args.length := by omega
            have hr := ih a.args[i] b.args[i] h (by have := arg_size (List.getElem_mem hi); omega) (oa.arg (List.getElem_mem hi)) (ob.arg (List.getElem_mem hi2)) (hall i _ _ (List.getElem?_eq_getElem hi) (List.getElem?_eq_getElem hi2))
            have hn := ihq (i + 1) hi (by omega)
            simp only [Ty.c4] at hn
            rw [ltT hi, condT, ltT hi2, condT, indexA_map _ _ _ _ hi, bind_some', partA_full (Ty.cells_len _), bind_some', indexA_map _ _ _ _ hi2, bind_some', partA_full (Ty.cells_len _), bind_some', hr, onOut_ret, notB, bind_some', boolB, bind_some', Bool.not_true, condF, addI, bind_some', incI (by omega)]
            exact hn
          · rw [ltF hi, condF]
      have hL : Lp23_0 (evw E) (a.args.length + 1) h (a.args.length + 1) h (a.cells.getD 0 .dead) (a.cells.getD 1 .dead) (a.cells.getD 2 .dead) (a.cells.getD 3 .dead) (a.cells.getD 4 .dead) (b.cells.getD 0 .dead) (b.cells.getD 1 .dead) (b.cells.getD 2 .dead) (b.cells.getD 3 .dead) (b.cells.getD 4 .dead) (.lit (.int .i64 0)) = some (.ret (.lit (.bool true)), h) := loop (a.args.length + 1) 0 (Nat.zero_le _) (by omega)
      refine evw_run primsC (a.args.length + 1) rfl rfl rfl ?_
      rw [nf23]
      simp only [aggS, bind_some', Ty.cells_len, b5, condT, condF, Ty.refold, dyn126 b ob, hd, alike127 a b oa, hk, onOut_ret, boolB, notB, Bool.not_true, hL]
theorem lessT (a b : Ty) (h : Heap) (oa : a.Ok) (ob : b.Ok) (hl : Ls a b) : evw E 23 [.agg a.cells, .agg b.cells] h = some (.ret (.lit (.bool true)), h) := less_true _ a b h (Nat.lt_succ_self _) oa ob hl
/-- Bounds that are less. -/
def LsB : List Bind → List Bind → Prop
  | [], [] => True
  | b :: d, c :: e => b.name = c.name ∧ Ls b.ty c.ty ∧ LsB d e
  | _, _ => False
theorem lsB_of : ∀ (d e : List Bind), d.length = e.length → (∀ (j : Nat) (b c : Bind), d[j]? = some b → e[j]? = some c → b.name = c.name ∧ Ls b.ty c.ty) → LsB d e
  | [], [], _, _ => trivial
  | b :: d, c :: e, hl, h => ⟨(h 0 b c rfl rfl).1, (h 0 b c rfl rfl).2, lsB_of d e (by simpa using hl) fun j x y h1 h2 => h (j + 1) x y (by simpa using h1) (by simpa using h2)⟩
  | [], c :: e, hl, _ => by simp at hl
  | b :: d, [], hl, _ => by simp at hl
theorem neSt (a b : ByteArray) : binAV E .neq 9 (.lit (.string a)) (.lit (.string b)) = some (.lit (.bool (!(eqd a b)))) := by rw [bin_str, neS]
theorem binds22 (d e : List Bind) (hd : d.length ≤ maxLen) (he : e.length ≤ maxLen) (od : ∀ b ∈ d, b.Ok) (oe : ∀ b ∈ e, b.Ok) (h : Heap) : ∃ c : Bool, evw E 22 [.sl 6 (d.map Bind.cells), .sl 6 (e.map Bind.cells)] h = some (.ret (.lit (.bool c)), h) ∧ (c = true → LsB d e) := by
  have hd' : d.length ≤ 9223372036854775807 := hd
  have ele : eqd (d.length : Int) (e.length : Int) = eqd d.length e.length := by rw [Bool.eq_iff_iff, eqd_iff, eqd_iff]; omega
  cases hne : eqd d.length e.length with
  | false =>
    refine ⟨false, evw_run primsC 0 rfl rfl rfl ?_, fun e => by cases e⟩
    rw [nf22, lenA22, bind_some', lenA22, bind_some', List.length_map, List.length_map, bin_int, neqE, bind_some', boolB, bind_some', ele, hne]; rfl
  | true =>
    have hlen : d.length = e.length := eqd_iff.1 hne
    have loop : ∀ (q i : Nat), i ≤ d.length → d.length < q + i → ∃ c : Bool, Lp22_0 (evw E) (d.length + 1) h q h (.sl 6 (d.map Bind.cells)) (.sl 6 (e.map Bind.cells)) (.lit (.int .i64 (i : Int))) = some (.ret (.lit (.bool c)), h) ∧ (c = true → ∀ (j : Nat) (b c : Bind), i ≤ j → d[j]? = some b → e[j]? = some c → b.name = c.name ∧ Ls b.ty c.ty) := by
      intro q
      induction q with
      | zero => intro i h1 h2; omega
      | succ q ih =>
        intro i h1 h2
        rw [Lp22_0_succ, lenA22, bind_some', lenA22, bind_some', List.length_map, List.length_map, bin_int, lssI, bind_some', boolB, bind_some', bin_int, lssI, bind_some', boolB, bind_some']
        by_cases hi : i < d.length
        · have hi2 : i < e.length := by omega
          have ob := od _ (List.getElem_mem hi)
          have oc := oe _ (List.getElem_mem hi2)
          obtain ⟨x, hx1, hx2⟩ := less70 _ (d[i]).ty (e[i]).ty h (Nat.lt_succ_self _) ob.ty oc.ty
          rw [ltT hi, condT, ltT hi2, condT, indexA_map _ _ _ _ hi, bind_some', Bind.len, show Nat.ble 0 6 = true from rfl, condT, Bind.p0, bind_some', indexA_map _ _ _ _ hi2, bind_some', Bind.len, show Nat.ble 0 6 = true from rfl, condT, Bind.p0, bind_some', neSt, bind_some', boolB, bind_some', bind_some', Bind.len, show Nat.ble 1 6 = true from rfl, condT, Bind.p1, bind_some', bind_some', Bind.len, show Nat.ble 1 6 = true from rfl, condT, Bind.p1, bind_some', hx1, onOut_ret, notB, bind_some', boolB, bind_some']
          cases hn : eqd (d[i]).name (e[i]).name with
          | false => exact ⟨false, rfl, fun e => by cases e⟩
          | true =>
          cases x with
          | false => exact ⟨false, rfl, fun e => by cases e⟩
          | true =>
            obtain ⟨c, h3, h4⟩ := ih (i + 1) hi (by omega)
            refine ⟨c, ?_, fun hc j b b' hj hb hb' => ?_⟩
            · simp only [Bool.not_true, condF, bin_int, addI, bind_some', incI (show i < 9223372036854775807 by omega)]
              exact h3
            · by_cases hji : j = i
              · rw [hji, List.getElem?_eq_getElem hi] at hb
                rw [hji, List.getElem?_eq_getElem hi2] at hb'
                rw [← Option.some.inj hb, ← Option.some.inj hb']
                exact ⟨eqd_iff.1 hn, hx2 rfl⟩
              · exact h4 hc j b b' (by omega) hb hb'
        · rw [ltF hi, condF]
          exact ⟨true, rfl, fun _ j b c hj hb _ => by have := (List.getElem?_eq_some_iff.1 hb).1; omega⟩
    obtain ⟨c, h1, h2⟩ := loop (d.length + 1) 0 (Nat.zero_le _) (by omega)
    refine ⟨c, evw_run primsC (d.length + 1) rfl rfl rfl ?_, fun hc => lsB_of d e hlen fun j b b' => h2 hc j b b' (Nat.zero_le _)⟩
    rw [nf22, lenA22, bind_some', lenA22, bind_some', List.length_map, List.length_map, bin_int, neqE, bind_some', boolB, bind_some', ele, hne, Bool.not_true, condF]
    exact h1
theorem findB_ls : ∀ {d e : List Bind} (s : ByteArray), LsB d e → (findB d s = none ∧ findB e s = none) ∨ ∃ u v, findB d s = some u ∧ findB e s = some v ∧ Ls u v
  | [], [], s, _ => .inl ⟨rfl, rfl⟩
  | b :: d, c :: e, s, h => by
    obtain ⟨h1, h2, h3⟩ := h
    rw [findB, findB, ← h1]
    cases strEq b.name s with
    | true => exact .inr ⟨b.ty, c.ty, rfl, rfl, h2⟩
    | false => exact findB_ls s h3
  | [], c :: e, s, h => by exact h.elim
  | b :: d, [], s, h => by exact h.elim
theorem upT_not {d : List Bind} {t : Ty} (h : t.k ≠ 6) : (upT d t).1 = t := by unfold upT; rw [eqdN h, cond_false]
theorem upT_ls {d e : List Bind} {t u : Ty} (hde : LsB d e) (h : Ls t u) : Ls (upT d t).1 (upT e u).1 := by
  cases h with
  | dyn he =>
    have : (upT e u).1 = dynT := by rw [upT_not (by rw [he]; decide), he]
    rw [this]; exact .dyn rfl
  | alike hk hn hs hl ha hall =>
    have hall' : Ls t u := .alike hk hn hs hl ha hall
    by_cases h6 : t.k = 6
    · unfold upT
      rw [← hk, h6, eqd_self, cond_true, cond_true, ← hs]
      rcases findB_ls t.name hde with ⟨e1, e2⟩ | ⟨a, b, e1, e2, e3⟩
      · rw [e1, e2]; exact hall'
      · rw [e1, e2]; exact e3
    · rw [upT_not h6, upT_not (by rw [← hk]; exact h6)]; exact hall'
theorem fnT_args (a b : Ty) : (fnT a b).args = [a, b] := rfl
/-- What served as a function serves, as what is less. -/
theorem funM_ls {d e : List Bind} {t u f : Ty} (hde : LsB d e) (h : Ls t u) (hf : funM d t = some f) : ∃ g, funM e u = some g ∧ f.right = true ∧ g.right = true ∧ f.k = 7 ∧ g.k = 7 ∧ ∀ (i : Nat) (a b : Ty), f.args[i]? = some a → g.args[i]? = some b → Ls a b := by
  have hup := upT_ls hde h
  obtain ⟨rt, ra, f7, hu, rf, hf5⟩ := funM_some hf
  have ru := h.right rt
  have rb := hup.right ra
  have pairLs : ∀ {p q r s : Ty}, Ls p r → Ls q s → ∀ (i : Nat) (a b : Ty), [p, q][i]? = some a → [r, s][i]? = some b → Ls a b := by
    intro p q r s h1 h2 i a b ha hb
    match i with
    | 0 => simp only [List.getElem?_cons_zero, Option.some.injEq] at ha hb; rw [← ha, ← hb]; exact h1
    | 1 => simp only [List.getElem?_cons_succ, List.getElem?_cons_zero, Option.some.injEq] at ha hb; rw [← ha, ← hb]; exact h2
    | n + 2 => simp at ha
  have hb5 : (upT e u).1.k = 5 → funM e u = some (fnT (upT e u).1 (upT e u).1) := fun h5 => by
    unfold funM; rw [ru, rb, h5, eqd_self]; rfl
  rcases hup.kind with e1 | e1
  · refine ⟨_, hb5 (by rw [e1]; rfl), rf, fnT_right rb rb, f7, rfl, fun i a b ha hb => ?_⟩
    rw [fnT_args, e1] at hb
    have : b = dynT := by
      match i with
      | 0 => simp only [List.getElem?_cons_zero, Option.some.injEq] at hb; exact hb.symm
      | 1 => simp only [List.getElem?_cons_succ, List.getElem?_cons_zero, Option.some.injEq] at hb; exact hb.symm
      | n + 2 => simp at hb
    exact .dyn this
  · rcases hu with e5 | e7
    · have hf' := hf5 e5
      refine ⟨_, hb5 (by rw [← e1]; exact e5), rf, fnT_right rb rb, f7, rfl, ?_⟩
      rw [hf', fnT_args, fnT_args]
      exact pairLs hup hup
    · have b7 : (upT e u).1.k = 7 := by rw [← e1, ← e7]; exact f7
      have hg : funM e u = some (upT e u).1 := by
        unfold funM; rw [ru, rb, b7, eqd_self, eqdN (show (7 : Int) ≠ 5 by decide)]; rfl
      refine ⟨_, hg, rf, rb, f7, b7, ?_⟩
      rw [e7]
      exact (hup.args (by unfold Ty.loose; rw [b7, eqdN (show (7 : Int) ≠ 5 by decide), eqdN (show (7 : Int) ≠ 4 by decide)]; rfl)).2.2.2
/-- And as a record. -/
theorem fieldM_ls {d e : List Bind} {t u r p : Ty} {x : ByteArray} (hde : LsB d e) (h : Ls t u) (hf : fieldM d t x = some (r, p)) : ∃ s q, fieldM e u x = some (s, q) ∧ Ls p q := by
  have hup := upT_ls hde h
  obtain ⟨rt, ra, r8, hu, rr, hg, hg5, hx⟩ := fieldM_some hf
  have ru := h.right rt
  have rb := hup.right ra
  have hb5 : (upT e u).1.k = 5 → fieldM e u x = some (recT1 x (upT e u).1, (upT e u).1) := fun h5 => by
    unfold fieldM; rw [ru, rb, hx, h5, eqd_self]; rfl
  rcases hup.kind with e1 | e1
  · exact ⟨_, _, hb5 (by rw [e1]; rfl), .dyn e1⟩
  · rcases hu with e5 | e8
    · exact ⟨_, _, hb5 (by rw [← e1]; exact e5), by rw [hg5 e5]; exact hup⟩
    · have a8 : (upT d t).1.k = 8 := by rw [← e8]; exact r8
      have b8 : (upT e u).1.k = 8 := by rw [← e1]; exact a8
      obtain ⟨_, hlab, hlen, hall⟩ := hup.args (by unfold Ty.loose; rw [b8, eqdN (show (8 : Int) ≠ 5 by decide), eqdN (show (8 : Int) ≠ 4 by decide)]; rfl)
      rw [e8] at hg
      unfold fieldT at hg
      rw [a8, eqd_self, cond_true, Option.bind_eq_some_iff] at hg
      obtain ⟨i, i1, i2⟩ := hg
      have hi : i < (upT e u).1.args.length := by have := (List.getElem?_eq_some_iff.1 i2).1; omega
      have hq := List.getElem?_eq_getElem hi
      have hfT : fieldT (upT e u).1 x = some (upT e u).1.args[i] := by
        unfold fieldT
        rw [b8, eqd_self, cond_true, ← hlab, i1]; exact hq
      refine ⟨(upT e u).1, _, ?_, hall i p _ i2 hq⟩
      unfold fieldM
      rw [ru, rb, hx, b8, eqd_self, eqdN (show (8 : Int) ≠ 5 by decide), hfT]; rfl
theorem funM_ok {d : List Bind} (od : ∀ b ∈ d, b.Ok) {t f : Ty} (ot : t.Ok) (h : funM d t = some f) : f.Ok := by
  obtain ⟨_, _, _, hu, _, hf5⟩ := funM_some h
  have ou := upT_ok od ot
  rcases hu with e | e
  · rw [hf5 e]; exact fnT_ok ou ou
  · rw [e]; exact ou
theorem fieldM_ok {d : List Bind} (od : ∀ b ∈ d, b.Ok) {t r g : Ty} {x : ByteArray} (hx : x.size ≤ maxLen) (ot : t.Ok) (hM : fieldM d t x = some (r, g)) : g.Ok := by
  obtain ⟨_, _, _, hu, _, hg, hg5, _⟩ := fieldM_some hM
  have ou := upT_ok od ot
  rcases hu with e | e
  · rw [hg5 e]; exact ou
  · rw [e] at hg; exact ou.arg (fieldT_mem hg).1
theorem matchLess_row (d : List Bind) (hd : d.length ≤ maxLen) (od : ∀ b ∈ d, b.Ok) (e : List Bind) (he : e.length ≤ maxLen) (oe : ∀ b ∈ e, b.Ok) (t : Ty) (ot : t.Ok) (u : Ty) (ou : u.Ok) (x : ByteArray) (hx : x.size ≤ maxLen) (_ : List Nat) : evw E 4 [.sl 6 (d.map Bind.cells), .sl 6 (e.map Bind.cells), .agg t.cells, .agg u.cells, .lit (.string x)] [] = some (.ret (.lit (.bool true)), []) := by
  refine evw_run primsC 0 rfl rfl rfl ?_
  rw [nf4, aggS, bind_some', Ty.cells_len, b5, condT, aggS, bind_some', Ty.cells_len, b5, condT]
  obtain ⟨c1, hc1, hl1⟩ := binds22 d e hd he od oe []
  obtain ⟨c2, hc2, hl2⟩ := less70 _ t u [] (Nat.lt_succ_self _) ot ou
  simp only [Ty.refold, small_spec d hd od t ot, small_spec e he oe u ou, hc1, hc2, onOut_ret, notB, bind_some', boolB, awake16]
  cases hs : small14 d t with
  | false => rfl
  | true =>
  cases small14 e u with
  | false => rfl
  | true =>
  cases c1 with
  | false => rfl
  | true =>
  cases c2 with
  | false => rfl
  | true =>
  have hlen : d.length ≤ 1000 := by
    unfold small14 at hs
    rw [Bool.and_eq_true, decide_eq_true_eq, decide_eq_true_eq] at hs
    exact Nat.le_trans (few16_len (by omega)) (by decide)
  obtain ⟨c, h15, _⟩ := right15 d hlen od []
  have hde := hl1 rfl
  have htu := hl2 rfl
  simp only [Bool.not_true, condF, h15, onOut_ret, notB, bind_some', boolB]
  cases c with
  | false => simp only [Bool.not_false, condT, awake16, onOut_ret]
  | true =>
  have k1 := fun17 d hd od t ot []
  have k2 := fun17 e he oe u ou []
  have m1 := field19 d hd od t ot x hx []
  have m2 := field19 e he oe u ou x hx []
  cases hF : funM d t with
  | some f =>
    obtain ⟨g, hG, rf, rg, f7, g7, hfg⟩ := funM_ls hde htu hF
    have of := funM_ok od ot hF
    have og := funM_ok oe ou hG
    have lf := right_fn rf f7
    have lg := right_fn rg g7
    rw [hF] at k1
    rw [hG] at k2
    have ef : lenA E 24 (f.cells.getD 4 .dead) = some (2 : Int) := by rw [Ty.c4, lenA24, List.length_map, lf]; rfl
    have eg : lenA E 24 (g.cells.getD 4 .dead) = some (2 : Int) := by rw [Ty.c4, lenA24, List.length_map, lg]; rfl
    have f0 : 0 < f.args.length := by omega
    have f1 : 1 < f.args.length := by omega
    have g0' : 0 < g.args.length := by omega
    have g1' : 1 < g.args.length := by omega
    have jf0 : indexA 5 (f.cells.getD 4 .dead) (.lit (.int .i64 0)) = some (f.args[0]).cells := by rw [Ty.c4]; exact indexA_map f.args Ty.cells 5 0 f0
    have jf1 : indexA 5 (f.cells.getD 4 .dead) (.lit (.int .i64 1)) = some (f.args[1]).cells := by rw [Ty.c4]; exact indexA_map f.args Ty.cells 5 1 f1
    have jg0 : indexA 5 (g.cells.getD 4 .dead) (.lit (.int .i64 0)) = some (g.args[0]).cells := by rw [Ty.c4]; exact indexA_map g.args Ty.cells 5 0 g0'
    have jg1 : indexA 5 (g.cells.getD 4 .dead) (.lit (.int .i64 1)) = some (g.args[1]).cells := by rw [Ty.c4]; exact indexA_map g.args Ty.cells 5 1 g1'
    have l0 := lessT f.args[0] g.args[0] [] (of.arg (List.getElem_mem f0)) (og.arg (List.getElem_mem g0')) (hfg 0 _ _ (List.getElem?_eq_getElem f0) (List.getElem?_eq_getElem g0'))
    have l1 := lessT f.args[1] g.args[1] [] (of.arg (List.getElem_mem f1)) (og.arg (List.getElem_mem g1')) (hfg 1 _ _ (List.getElem?_eq_getElem f1) (List.getElem?_eq_getElem g1'))
    simp only [Bool.not_true, condF, k1, k2, Option.getD_some, Option.isSome_some, onOut_ret, tupS, bind_some', t20, t21, aggS, Ty.cells_len, b5, condT, boolB, notB, ef, eg, bin_int, neqE, eqd_self, jf0, jf1, jg0, jg1, partA_full (Ty.cells_len _), l0, l1, m1, m2, t30, t31, t32]
    cases hM : fieldM d t x with
    | none => simp only [Option.isSome_none, Bool.not_false, condT, awake16, onOut_ret]
    | some pr =>
      obtain ⟨r, p⟩ := pr
      obtain ⟨s, q, hQ, hpq⟩ := fieldM_ls hde htu hM
      have lp := lessT p q [] (fieldM_ok od hx ot hM) (fieldM_ok oe hx ou hQ) hpq
      simp only [hQ, Option.getD_some, Option.isSome_some, Bool.not_true, condF, condT, Ty.refold, lp, onOut_ret, boolB, bind_some', awake16]
  | none =>
    rw [hF] at k1
    simp only [Bool.not_true, condF, k1, k2, Option.getD_none, Option.isSome_none, onOut_ret, tupS, bind_some', t20, t21, aggS, Ty.cells_len, b5, condT, boolB, notB, m1, m2, t30, t31, t32]
    cases hM : fieldM d t x with
    | none => simp only [Option.isSome_none, Bool.not_false, condT, awake16, onOut_ret]
    | some pr =>
      obtain ⟨r, p⟩ := pr
      obtain ⟨s, q, hQ, hpq⟩ := fieldM_ls hde htu hM
      have lp := lessT p q [] (fieldM_ok od hx ot hM) (fieldM_ok oe hx ou hQ) hpq
      simp only [hQ, Option.getD_some, Option.isSome_some, Bool.not_true, condF, condT, Ty.refold, lp, onOut_ret, boolB, bind_some', awake16]
end Go.Sh.T
