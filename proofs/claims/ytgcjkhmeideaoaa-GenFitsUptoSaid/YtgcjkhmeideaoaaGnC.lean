/- GnC: part of the proof: a shadow of the machine that is proved sound, and what the functions of this seat compute. Conditions: none. -/
import Derived.Test.YtgcjkhmeideaoaaGnB
import Derived.Test.YtgcjkhmeideaoaaGnG
set_option linter.unusedSimpArgs false
/- Gen: Fun and Field of the document; what is an unknown, and what has one. -/
namespace Go.Sh.T
open Go Go.Sh
set_option linter.unusedSimpArgs false
set_option linter.unusedVariables false
set_option maxRecDepth 100000

theorem lenA27 (es : List (List AV)) : lenA E 27 (.sl 2 es) = some (es.length : Int) := (Eq.refl _).trans (by kernel_rfl)
theorem lenH27 (j o n : Nat) : lenA E 27 (.hs 2 j o n) = some (n : Int) := (Eq.refl _).trans (by kernel_rfl)

theorem fun23 (a b : Ty) (h : Heap) : evw E 23 [.agg a.cells, .agg b.cells] h = some (.ret (.agg (fnT a b).cells), h) := by
  refine evw_run primsC 0 rfl rfl rfl ?_
  rw [nf23, fnT_cells]; simp only [aggS, bind_some', Ty.cells_len, b5, condT, Ty.refold]
/-- Is it an unknown? -/
noncomputable def Ty.isU (n : Nat) (t : Ty) : Bool := eqd t.k 9 && decide (t.n < (n : Int))
mutual
noncomputable def Ty.hasU (n : Nat) : Ty → Bool
  | ⟨k, m, _, _, xs⟩ => (eqd k 9 && decide (m < (n : Int))) || Ty.hasUL n xs
noncomputable def Ty.hasUL (n : Nat) : List Ty → Bool
  | [] => false
  | t :: r => t.hasU n || Ty.hasUL n r
end
theorem Ty.hasU_eq (n : Nat) (t : Ty) : t.hasU n = (t.isU n || Ty.hasUL n t.args) := by cases t; rw [Ty.hasU]; rfl
theorem Ty.hasUL_any (n : Nat) : ∀ l : List Ty, Ty.hasUL n l = l.any (fun t => t.hasU n)
  | [] => by rw [Ty.hasUL]; rfl
  | t :: r => by rw [Ty.hasUL, List.any_cons, Ty.hasUL_any n r]

/-- A block of the heap that bears bounds and a slice of needs. -/
def Wk (h : Heap) (i j n : Nat) (D : AV) (x : List Cell) : Prop := h[i]? = some ([.v D, .v (.hs 2 j 0 n)] ++ x)
theorem Wk.d {h : Heap} {i j n : Nat} {D : AV} {x : List Cell} (hw : Wk h i j n D x) : hpart false 1 0 i h = some D := by
  unfold hpart; unfold Wk at hw; rw [hw]; rfl
theorem Wk.l {h : Heap} {i j n : Nat} {D : AV} {x : List Cell} (hw : Wk h i j n D x) : hpart false 1 1 i h = some (.hs 2 j 0 n) := by
  unfold hpart; unfold Wk at hw; rw [hw]; rfl
theorem eN (t : Ty) (op : BinOp) (n : Nat) : binAV E op 3 (t.cells.getD 1 .dead) (.lit (.int .i64 (n : Int))) = intBin op .i64 t.n n := by rw [Ty.c1, bin_int]
theorem is47 {h : Heap} {i j n : Nat} {D : AV} {x : List Cell} (hw : Wk h i j n D x) (t : Ty) : evw E 47 [.hp i 0, .agg t.cells] h = some (.ret (.lit (.bool (t.isU n))), h) := by
  refine evw_run primsC 0 rfl rfl rfl ?_
  rw [nf47]; simp only [aggS, bind_some', Ty.cells_len, b5, condT, eT, eqlE, boolB, hw.l, lenH27, eN, lssI]
  unfold Ty.isU
  cases eqd t.k 9 <;> rfl
theorem has46 {h : Heap} {i j n : Nat} {D : AV} {x : List Cell} (hw : Wk h i j n D x) : ∀ (m : Nat) (t : Ty), SizeOf.sizeOf t < m → t.Ok → evw E 46 [.hp i 0, .agg t.cells] h = some (.ret (.lit (.bool (t.hasU n))), h)
  | 0, t, hm, _ => by omega
  | m + 1, t, hm, ok => by
    have ha := any_spec (fun a => a.hasU n) (.fn 46 [.hp i 0] []) h t.args ok.len (fun a h1 => by
      have := arg_size h1
      exact has46 hw m a (by omega) (ok.arg h1))
    rw [← Ty.c4] at ha
    refine evw_run primsC 0 rfl rfl rfl ?_
    rw [nf46]; simp only [aggS, bind_some', Ty.cells_len, b5, condT, Ty.refold, is47 hw, onOut_ret, boolB, ha]
    rw [Ty.hasU_eq, Ty.hasUL_any]
    cases t.isU n <;> rfl
theorem hasP {h : Heap} {i j n : Nat} {D : AV} {x : List Cell} (hw : Wk h i j n D x) (t : Ty) (ok : t.Ok) : evw E 46 [.hp i 0, .agg t.cells] h = some (.ret (.lit (.bool (t.hasU n))), h) := has46 hw _ t (Nat.lt_succ_self _) ok
end Go.Sh.T

/- Gen: needs, and a type more; all of a type is open. -/
namespace Go.Sh.T
open Go Go.Sh
set_option linter.unusedSimpArgs false
set_option linter.unusedVariables false
set_option maxRecDepth 100000

theorem right_u {t : Ty} (h : t.right = true) (hk : t.k = 9) : 0 ≤ t.n := by
  rw [Ty.right_eq, Bool.and_eq_true] at h
  have h2 := h.2
  unfold nodeR at h2
  rw [hk] at h2
  simp only [Bool.and_eq_true] at h2
  have h3 := h2.2
  simp only [show (decide ((9 : Int) ≥ 1) && decide ((9 : Int) ≤ 5)) = false from rfl, show ((9 : Int) == 6) = false from rfl, show ((9 : Int) == 9) = true from rfl, cond_false, cond_true, Bool.and_eq_true, decide_eq_true_eq] at h3
  omega

abbrev Needs := List (List Ty × List Ty)
def needC : Needs → List Cell
  | [] => []
  | (lo, up) :: r => .own 5 (lo.map Ty.cells) :: .own 5 (up.map Ty.cells) :: needC r
def push1 : Needs → Nat → Bool → Ty → Needs
  | [], _, _, _ => []
  | p :: r, 0, up, t => (bif up then (p.1, p.2 ++ [t]) else (p.1 ++ [t], p.2)) :: r
  | p :: r, k + 1, up, t => p :: push1 r k up t
theorem push1_len : ∀ (w : Needs) (k : Nat) (up : Bool) (t : Ty), (push1 w k up t).length = w.length
  | [], _, _, _ => rfl
  | _ :: _, 0, _, _ => rfl
  | _ :: r, k + 1, up, t => by rw [push1, List.length_cons, List.length_cons, push1_len r k up t]
def upN (up : Bool) : Nat := bif up then 1 else 0
/-- There is room for m more. -/
def Room (w : Needs) (m : Nat) : Prop := ∀ p ∈ w, p.1.length + m ≤ maxApp ∧ p.2.length + m ≤ maxApp
theorem Room.mono {w : Needs} {a b : Nat} (h : Room w b) (hab : a ≤ b) : Room w a := fun p hp => by have := h p hp; omega
theorem Room.push {m : Nat} : ∀ {w : Needs} (k : Nat) (up : Bool) (t : Ty), Room w (m + 1) → Room (push1 w k up t) m
  | [], _, _, _, _ => fun p hp => by cases hp
  | q :: r, 0, up, t, h => fun p hp => by
    rw [push1] at hp
    rcases List.mem_cons.1 hp with e | e
    · have := h q List.mem_cons_self
      rw [e]
      cases up <;> simp only [cond_true, cond_false, List.length_append, List.length_cons, List.length_nil] <;> omega
    · have := h p (List.mem_cons_of_mem _ e); omega
  | q :: r, k + 1, up, t, h => fun p hp => by
    rw [push1] at hp
    rcases List.mem_cons.1 hp with e | e
    · have := h q List.mem_cons_self; rw [e]; omega
    · exact Room.push k up t (fun p' hp' => h p' (List.mem_cons_of_mem _ hp')) p e
theorem needC_at : ∀ (w : Needs) (k : Nat) (up : Bool) (t : Ty), k < w.length → ∃ es : List (List AV), (needC w)[k * 2 + upN up]? = some (.own 5 es) ∧ (needC w).set (k * 2 + upN up) (.own 5 (es ++ [t.cells])) = needC (push1 w k up t) ∧ ∀ m, Room w m → es.length + m ≤ maxApp
  | (lo, hi) :: r, 0, up, t, _ => by
    cases up with
    | false => exact ⟨lo.map Ty.cells, rfl, by rw [push1, cond_false, needC, needC, List.map_append]; rfl, fun m h => by rw [List.length_map]; exact (h _ List.mem_cons_self).1⟩
    | true => exact ⟨hi.map Ty.cells, rfl, by rw [push1, cond_true, needC, needC, List.map_append]; rfl, fun m h => by rw [List.length_map]; exact (h _ List.mem_cons_self).2⟩
  | (lo, hi) :: r, k + 1, up, t, hk => by
    obtain ⟨es, h1, h2, h3⟩ := needC_at r k up t (by simpa using hk)
    have e : (k + 1) * 2 + upN up = (k * 2 + upN up) + 2 := by omega
    refine ⟨es, by rw [e]; exact h1, ?_, fun m h => h3 m fun p hp => h p (List.mem_cons_of_mem _ hp)⟩
    rw [e, push1, needC, needC, ← h2]; rfl
structure Ev where
  up : Bool
  n : Nat
  t : Ty
def pushes (w : Needs) (l : List Ev) : Needs := l.foldl (fun w e => push1 w e.n e.up e.t) w
theorem pushes_nil (w : Needs) : pushes w [] = w := rfl
theorem pushes_cons (w : Needs) (e : Ev) (l : List Ev) : pushes w (e :: l) = pushes (push1 w e.n e.up e.t) l := rfl
theorem pushes_app (w : Needs) (a b : List Ev) : pushes w (a ++ b) = pushes (pushes w a) b := List.foldl_append
theorem pushes_len : ∀ (l : List Ev) (w : Needs), (pushes w l).length = w.length
  | [], _ => rfl
  | e :: l, w => by rw [pushes_cons, pushes_len l, push1_len]
theorem Room.pushes {m : Nat} : ∀ (l : List Ev) {w : Needs}, Room w (m + l.length) → Room (pushes w l) m
  | [], _, h => h
  | e :: l, w, h => by rw [pushes_cons]; exact Room.pushes l (Room.push _ _ _ h)

/-- The heap with these needs in block j. -/
def hN (h : Heap) (j : Nat) (w : Needs) : Heap := h.set j (needC w)
theorem Wk.hN {h : Heap} {i j n : Nat} {D : AV} {x : List Cell} (hw : Wk h i j n D x) (hij : i ≠ j) (w : Needs) : Wk (hN h j w) i j n D x := by
  unfold Wk Go.Sh.T.hN at *; rw [List.getElem?_set_ne (by omega)]; exact hw
theorem hN_set (h : Heap) (j : Nat) (w w' : Needs) : (hN h j w).set j (needC w') = hN h j w' := by unfold hN; rw [List.set_set]
theorem push_run {h : Heap} {i j n : Nat} {D : AV} {x : List Cell} (hw : Wk h i j n D x) (hij : i ≠ j) (hj : j < h.length) (up : Bool) (p s : Ty) (hp : 0 ≤ p.n) (hn : p.n < (n : Int)) (w : Needs) (wl : w.length = n) (hr : Room w 1) :
    pushF (upN up) (evw E) [.hp i 0, .agg p.cells, .agg s.cells] (hN h j w) = some (.ret (.tup []), hN h j (push1 w p.n.toNat up s)) := by
  obtain ⟨es, e1, e2, e3⟩ := needC_at w p.n.toNat up s (by omega)
  have hw' := hw.hN hij w
  have hjj : (hN h j w)[j]? = some (needC w) := by unfold hN; rw [List.getElem?_set_self hj]
  have e5 := e3 1 hr
  have ew : (hN h j w)[i]? = _ := hw'
  have hs : pushP (upN up) i p.n s.cells (hN h j w) = some (hN h j (push1 w p.n.toNat up s)) := by
    unfold pushP
    rw [ew, Option.bind_some]
    show (cond (Nat.beq 2 2 && decide (0 ≤ p.n) && decide (p.n.toNat < n)) _ _) = _
    rw [show Nat.beq 2 2 = true from rfl, decide_eq_true hp, decide_eq_true (show p.n.toNat < n by omega), Bool.true_and, Bool.true_and, condT, hjj, Option.bind_some, Nat.zero_add, e1]
    show cond (Nat.beq 5 5 && Nat.ble (es.length + 1) maxApp) _ _ = _
    rw [show Nat.beq 5 5 = true from rfl, (by rw [Nat.ble_eq]; exact e5 : Nat.ble (es.length + 1) maxApp = true), Bool.true_and, condT, e2, hN_set]
  rw [Ty.cells_eq p]
  rw [Ty.cells_eq s] at hs ⊢
  unfold pushF
  show Option.bind _ _ = _
  rw [hs]; rfl
section
variable {h : Heap} {i j n : Nat} {D : AV} {x : List Cell} (hw : Wk h i j n D x) (hij : i ≠ j) (hj : j < h.length)
include hw hij hj
theorem push48' (p s : Ty) (hp : 0 ≤ p.n) (hn : p.n < (n : Int)) (w : Needs) (wl : w.length = n) (hr : Room w 1) : evw E 48 [.hp i 0, .agg p.cells, .agg s.cells] (hN h j w) = some (.ret (.tup []), hN h j (push1 w p.n.toNat false s)) :=
  evw_prim primsC (p := p48) (by kernel_rfl) (push_run hw hij hj false p s hp hn w wl hr)
theorem push50' (p s : Ty) (hp : 0 ≤ p.n) (hn : p.n < (n : Int)) (w : Needs) (wl : w.length = n) (hr : Room w 1) : evw E 50 [.hp i 0, .agg p.cells, .agg s.cells] (hN h j w) = some (.ret (.tup []), hN h j (push1 w p.n.toNat true s)) :=
  evw_prim primsC (p := p50) (by kernel_rfl) (push_run hw hij hj true p s hp hn w wl hr)
end

theorem list2 {α : Type} : ∀ {l : List α} (h : l.length = 2), l = [l[0]'(by omega), l[1]'(by omega)]
  | [_, _], _ => rfl
theorem eqd_of {a b : Int} (h : a = b) : eqd a b = true := by rw [h, eqd_self]
/- all of a type is open -/
mutual
noncomputable def Ty.opn (n : Nat) (b : Bool) : Ty → List Ev
  | ⟨k, m, s, ls, xs⟩ => bif eqd k 9 && decide (m < (n : Int)) then [⟨b, m.toNat, dynT⟩] else bif eqd k 7 then Ty.opnF n b xs else Ty.opnL n b xs
noncomputable def Ty.opnF (n : Nat) (b : Bool) : List Ty → List Ev
  | [] => []
  | t :: r => t.opn n (!b) ++ Ty.opnL n b r
noncomputable def Ty.opnL (n : Nat) (b : Bool) : List Ty → List Ev
  | [] => []
  | t :: r => t.opn n b ++ Ty.opnL n b r
end
theorem Ty.opn_eq (n : Nat) (b : Bool) (t : Ty) : t.opn n b = bif t.isU n then [⟨b, t.n.toNat, dynT⟩] else bif eqd t.k 7 then Ty.opnF n b t.args else Ty.opnL n b t.args := by cases t; rw [Ty.opn]; rfl
theorem opnF_cons (n : Nat) (b : Bool) : ∀ {l : List Ty} (h : 0 < l.length), Ty.opnF n b l = (l[0]).opn n (!b) ++ Ty.opnL n b (l.drop 1)
  | t :: r, _ => by rw [Ty.opnF]; rfl
theorem isU_k {n : Nat} {t : Ty} (h : t.isU n = true) : t.k = 9 ∧ t.n < (n : Int) := by
  unfold Ty.isU at h; rw [Bool.and_eq_true, decide_eq_true_eq] at h; exact ⟨eqd_iff.1 h.1, h.2⟩
def pf (i : Nat) (b : Bool) : AV := .fn (bif b then 50 else 48) [.hp i 0] []
theorem apply_pf (F : Nat → List AV → Heap → R) (i : Nat) (b : Bool) (args : List AV) (h : Heap) : applyV F (pf i b) args h = F (bif b then 50 else 48) (.hp i 0 :: args) h := by
  show F _ ([.hp i 0] ++ args ++ []) h = _
  rw [List.append_nil]; rfl
section
variable {h : Heap} {i j n : Nat} {D : AV} {x : List Cell} (hw : Wk h i j n D x) (hij : i ≠ j) (hj : j < h.length)
include hw hij hj
theorem open49 : ∀ (m : Nat) (t : Ty), SizeOf.sizeOf t < m → t.Ok → t.right = true → ∀ (b : Bool) (w : Needs), w.length = n → Room w (t.opn n b).length → evw E 49 [.hp i 0, .agg t.cells, pf i b, pf i (!b)] (hN h j w) = some (.ret (.tup []), hN h j (pushes w (t.opn n b)))
  | 0, t, hm, _, _, _, _, _, _ => by omega
  | m + 1, t, hm, ok, rt, b, w, wl, hr => by
    have hlen := ok.len
    have hL : ∀ (H0 : Heap) (b : Bool) (q k : Nat), k ≤ t.args.length → t.args.length < q + k → ∀ (w : Needs), w.length = n → Room w (Ty.opnL n b (t.args.drop k)).length → Lp49_0 (evw E) (t.args.length + 1) H0 q (hN h j w) i (pf i b) (pf i (!b)) (t.cells.getD 4 .dead) (.lit (.int .i64 (t.args.length : Int))) (.lit (.int .i64 (k : Int))) = some (.ret (.tup []), hN h j (pushes w (Ty.opnL n b (t.args.drop k)))) := by
      intro H0 b q
      induction q with
      | zero => intro k h1 h2; omega
      | succ q ih =>
        intro k h1 h2 w wl hr
        rw [Lp49_0_succ]
        simp only [bind_some', bin_int, lssI, boolB]
        by_cases hi : k < t.args.length
        · have e4 : indexA 5 (t.cells.getD 4 .dead) (.lit (.int .i64 (k : Int))) = some (t.args[k]).cells := by rw [Ty.c4]; exact indexA_map _ _ _ _ hi
          rw [List.drop_eq_getElem_cons hi, Ty.opnL] at hr ⊢
          rw [List.length_append] at hr
          have hrec := open49 m t.args[k] (by have := Ty.size_arg hi; omega) (ok.arg (List.getElem_mem hi)) (right_arg rt (List.getElem_mem hi)) b w wl (hr.mono (by omega))
          simp only [ltT hi, condT, e4, bind_some', partA_full (Ty.cells_len _), aggS, Ty.cells_len, b5, Ty.refold, hrec, onOut_ret, bin_int, addI, incI (show k < 9223372036854775807 by omega)]
          rw [pushes_app]
          exact ih (k + 1) hi (by omega) _ (by rw [pushes_len, wl]) (Room.pushes _ (hr.mono (by omega)))
        · simp only [ltF hi, condF]
          rw [List.drop_of_length_le (by omega), Ty.opnL, pushes_nil]
    refine evw_run primsC (t.args.length + 1) rfl rfl rfl ?_
    have e4 : lenA E 24 (t.cells.getD 4 .dead) = some (t.args.length : Int) := by rw [Ty.c4, lenA24, List.length_map]
    rw [nf49]; simp only [aggS, bind_some', Ty.cells_len, b5, condT, Ty.refold, is47 (hw.hN hij w), onOut_ret, eT, eqlE, boolB, apply_pf, ← dynT_cells, e4]
    rw [Ty.opn_eq] at hr ⊢
    cases hu : t.isU n with
    | true =>
      obtain ⟨k9, kn⟩ := isU_k hu
      rw [hu, condT] at hr
      simp only [condT]
      cases b with
      | true => simp only [condT]; rw [push50' hw hij hj t dynT (right_u rt k9) kn w wl hr]; rfl
      | false => simp only [condF]; rw [push48' hw hij hj t dynT (right_u rt k9) kn w wl hr]; rfl
    | false =>
      rw [hu, condF] at hr
      simp only [condF]
      cases h7 : eqd t.k 7 with
      | true =>
        rw [h7, condT] at hr
        have la := right_fn rt (eqd_iff.1 h7)
        have a0 : 0 < t.args.length := by omega
        have a1 : 1 < t.args.length := by omega
        have m0 := List.getElem_mem a0
        have m1 := List.getElem_mem a1
        have s0 := arg_size m0
        have s1 := arg_size m1
        have j0 : indexA 5 (t.cells.getD 4 .dead) (.lit (.int .i64 0)) = some (t.args[0]).cells := by rw [Ty.c4]; exact indexA_map t.args Ty.cells 5 0 a0
        have j1 : indexA 5 (t.cells.getD 4 .dead) (.lit (.int .i64 1)) = some (t.args[1]).cells := by rw [Ty.c4]; exact indexA_map t.args Ty.cells 5 1 a1
        have el : t.args = [t.args[0], t.args[1]] := list2 la
        have eo : Ty.opnF n b t.args = (t.args[0]).opn n (!b) ++ (t.args[1]).opn n b := by
          conv => lhs; rw [el]
          rw [Ty.opnF, Ty.opnL, Ty.opnL, List.append_nil]
        rw [eo] at hr ⊢
        rw [List.length_append] at hr
        have r0 := open49 m t.args[0] (by omega) (ok.arg m0) (right_arg rt m0) (!b) w wl (hr.mono (by omega))
        rw [Bool.not_not] at r0
        have r1 := open49 m t.args[1] (by omega) (ok.arg m1) (right_arg rt m1) b (pushes w ((t.args[0]).opn n (!b))) (by rw [pushes_len, wl]) (Room.pushes _ (hr.mono (by omega)))
        simp only [condT, j0, j1, bind_some', partA_full (Ty.cells_len _), r0, r1, onOut_ret, pushes_app]
      | false =>
        rw [h7, condF] at hr
        simp only [condF]
        cases h8 : eqd t.k 8 with
        | true =>
          have := hL (hN h j w) b (t.args.length + 1) 0 (Nat.zero_le _) (by omega) w wl hr
          simp only [condT]
          exact this
        | false =>
          rw [right_leaf rt (fun e => by rw [e, eqd_self] at h7; cases h7) (fun e => by rw [e, eqd_self] at h8; cases h8), Ty.opnL, pushes_nil]; rfl
theorem openP (t : Ty) (ok : t.Ok) (rt : t.right = true) (b : Bool) (w : Needs) (wl : w.length = n) (hr : Room w (t.opn n b).length) : evw E 49 [.hp i 0, .agg t.cells, pf i b, pf i (!b)] (hN h j w) = some (.ret (.tup []), hN h j (pushes w (t.opn n b))) := open49 hw hij hj _ t (Nat.lt_succ_self _) ok rt b w wl hr
end
end Go.Sh.T

/- Gen: what is asked, and the program's walk. -/
namespace Go.Sh.T
open Go Go.Sh
set_option linter.unusedSimpArgs false
set_option linter.unusedVariables false
set_option maxRecDepth 100000

abbrev Asked := List Ev × Bool
def sq (x y : Asked) : Asked := bif x.2 then x else (x.1 ++ y.1, y.2)
def sqs : List Asked → Asked
  | [] => ([], false)
  | x :: r => sq x (sqs r)
/-- What is asked: dir: s is to be below p; otherwise p is to be below s. The events, and whether something is not what it must be. -/
noncomputable def ask (d : List Bind) (n : Nat) : Nat → Bool → Ty → Ty → Asked
  | 0, _, _, _ => ([], false)
  | m + 1, dir, s, p =>
    bif !(p.hasU n) then ([], false) else
    bif p.isU n then ([⟨!dir, p.n.toNat, s⟩], false) else
    bif eqd s.k 5 then (p.opn n (!dir), false) else
    bif dir then
      bif eqd p.k 7 then (match funM d s with
        | none => ([], true)
        | some f => sq (ask d n m false (f.args.getD 0 zeroT) (p.args.getD 0 zeroT)) (ask d n m true (f.args.getD 1 zeroT) (p.args.getD 1 zeroT)))
      else bif eqd p.k 8 then sqs ((List.range' 0 p.labels.length).map fun i => match fieldM d s (p.labels.getD i ByteArray.empty) with
        | none => ([], true)
        | some q => ask d n m true q.2 (p.args.getD i zeroT))
      else ([], false)
    else
      bif eqd s.k 4 then ([], false) else
      bif eqd p.k 7 then (bif eqd s.k 7 then sq (ask d n m true (s.args.getD 0 zeroT) (p.args.getD 0 zeroT)) (ask d n m false (s.args.getD 1 zeroT) (p.args.getD 1 zeroT)) else ([], true))
      else bif eqd p.k 8 then (bif eqd s.k 8 then sqs ((List.range' 0 s.labels.length).map fun i => match fieldT p (s.labels.getD i ByteArray.empty) with
        | none => ([], true)
        | some f => ask d n m false (s.args.getD i zeroT) f) else ([], true))
      else ([], false)

theorem funM_some {d : List Bind} {t f : Ty} (h : funM d t = some f) : f.k = 7 ∧ f.right = true ∧ (f = (upT d t).1 ∨ f = fnT (upT d t).1 (upT d t).1) := by
  unfold funM at h
  cases hr : t.right && (upT d t).1.right with
  | false => rw [hr] at h; cases h
  | true =>
    rw [hr, cond_true] at h
    rw [Bool.and_eq_true] at hr
    cases h5 : eqd (upT d t).1.k 5 with
    | true =>
      rw [h5, cond_true] at h
      have h := Option.some.inj h
      exact ⟨by rw [← h]; rfl, by rw [← h]; exact fnT_right hr.2 hr.2, .inr h.symm⟩
    | false =>
      rw [h5, cond_false] at h
      cases h7 : eqd (upT d t).1.k 7 with
      | false => rw [h7] at h; cases h
      | true =>
        rw [h7, cond_true] at h
        have h := Option.some.inj h
        exact ⟨by rw [← h]; exact eqd_iff.1 h7, by rw [← h]; exact hr.2, .inl h.symm⟩
theorem fieldM_some {d : List Bind} {t r g : Ty} {x : ByteArray} (h : fieldM d t x = some (r, g)) : g.right = true ∧ (g = (upT d t).1 ∨ g ∈ (upT d t).1.args) := by
  unfold fieldM at h
  cases hr : (t.right && (upT d t).1.right) && (kindR x == 1) with
  | false => rw [hr] at h; cases h
  | true =>
    rw [hr, cond_true] at h
    rw [Bool.and_eq_true, Bool.and_eq_true] at hr
    cases h5 : eqd (upT d t).1.k 5 with
    | true =>
      rw [h5, cond_true] at h
      have h2 : (upT d t).1 = g := congrArg Prod.snd (Option.some.inj h)
      exact ⟨by rw [← h2]; exact hr.1.2, .inl h2.symm⟩
    | false =>
      rw [h5, cond_false] at h
      cases h8 : eqd (upT d t).1.k 8 with
      | false => rw [h8] at h; cases h
      | true =>
        rw [h8, cond_true, Option.map_eq_some_iff] at h
        obtain ⟨c, e1, e2⟩ := h
        have h2 : c = g := congrArg Prod.snd e2
        rw [h2] at e1
        have := (fieldT_mem e1).1
        exact ⟨right_arg hr.1.2 this, .inr this⟩
theorem funM_ok {d : List Bind} (od : ∀ b ∈ d, b.Ok) {t f : Ty} (ot : t.Ok) (h : funM d t = some f) : f.Ok := by
  rcases (funM_some h).2.2 with e | e
  · rw [e]; exact upT_ok od ot
  · rw [e]; exact fnT_ok (upT_ok od ot) (upT_ok od ot)
theorem fieldM_ok {d : List Bind} (od : ∀ b ∈ d, b.Ok) {t r g : Ty} (ot : t.Ok) {x : ByteArray} (h : fieldM d t x = some (r, g)) : g.Ok := by
  rcases (fieldM_some h).2 with e | e
  · rw [e]; exact upT_ok od ot
  · exact (upT_ok od ot).arg e

def outP (f : Bool) : Out := bif f then .pan (.ifc 73 (.agg [])) else .ret (.tup [])
theorem onOutP {ρ : Type} (f : Bool) (h : Heap) (k1 : AV → Heap → Option ρ) (k2 : Nat → List (List AV) → Heap → Option ρ) (k3 : AV → Heap → Option ρ) : onOut (some (outP f, h)) k1 k2 k3 = cond f (k3 (.ifc 73 (.agg [])) h) (k1 (.tup []) h) := by cases f <;> rfl
theorem must52 (b : Bool) (h : Heap) : evw E 52 [.lit (.bool b)] h = some (outP (!b), h) := by
  refine evw_run primsC 0 rfl rfl rfl ?_
  rw [nf52, notB, bind_some', boolB, bind_some']
  cases b <;> rfl
theorem pf48 (i : Nat) : (.fn 48 [.hp i 0] [] : AV) = pf i false := rfl
theorem pf50 (i : Nat) : (.fn 50 [.hp i 0] [] : AV) = pf i true := rfl
theorem getD_at {α : Type} {l : List α} {i : Nat} (h : i < l.length) (x : α) : l.getD i x = l[i] := by rw [List.getD_eq_getElem?_getD, List.getElem?_eq_getElem h]; rfl
theorem lenL (t : Ty) : lenA E 23 (t.cells.getD 3 .dead) = some (t.labels.length : Int) := by rw [Ty.c3, lenA23, List.length_map]
theorem atL (t : Ty) {i : Nat} (hi : i < t.labels.length) : indexA 1 (t.cells.getD 3 .dead) (.lit (.int .i64 (i : Int))) = some (strC t.labels[i]) := by rw [Ty.c3]; exact indexA_map _ _ _ _ hi
theorem atA (t : Ty) {i : Nat} (hi : i < t.args.length) : indexA 5 (t.cells.getD 4 .dead) (.lit (.int .i64 (i : Int))) = some (t.args[i]).cells := by rw [Ty.c4]; exact indexA_map _ _ _ _ hi
theorem atA0 (t : Ty) (hi : 0 < t.args.length) : indexA 5 (t.cells.getD 4 .dead) (.lit (.int .i64 0)) = some (t.args[0]).cells := atA t hi
theorem atA1 (t : Ty) (hi : 1 < t.args.length) : indexA 5 (t.cells.getD 4 .dead) (.lit (.int .i64 1)) = some (t.args[1]).cells := atA t hi
theorem isU_arg {n : Nat} {p : Ty} (rp : p.right = true) (h : p.hasU n = true) (hu : p.isU n = false) : p.k = 7 ∨ p.k = 8 := by
  by_cases h7 : p.k = 7
  · exact .inl h7
  · by_cases h8 : p.k = 8
    · exact .inr h8
    · rw [Ty.hasU_eq, hu, right_leaf rp h7 h8, Ty.hasUL] at h; cases h
theorem Ty.Ok.labs {t : Ty} (h : t.Ok) : ∀ s ∈ t.labels, s.size ≤ maxLen := by cases h with | mk _ _ _ _ hs _ _ => exact hs
theorem sq_run {h : Heap} {j n : Nat} {x y : Asked} {R' : R} {K : Heap → R} {w : Needs} (wl : w.length = n) (h1 : Room w x.1.length → R' = some (outP x.2, hN h j (pushes w x.1)))
    (h2 : ∀ w', w'.length = n → Room w' y.1.length → K (hN h j w') = some (outP y.2, hN h j (pushes w' y.1))) (hr : Room w (sq x y).1.length) :
    onOut R' (fun _ h' => K h') (fun _ _ _ => none) (fun p h' => some (.pan p, h')) = some (outP (sq x y).2, hN h j (pushes w (sq x y).1)) := by
  obtain ⟨e, f⟩ := x
  cases f with
  | true => rw [h1 hr, onOutP]; rfl
  | false =>
    have hr' : Room w (e ++ y.1).length := hr
    rw [List.length_append] at hr'
    rw [h1 (hr'.mono (by show e.length ≤ _; omega)), onOutP]
    show K (hN h j (pushes w e)) = some (outP y.2, hN h j (pushes w (e ++ y.1)))
    rw [pushes_app]
    exact h2 _ (by rw [pushes_len, wl]) (Room.pushes _ (hr'.mono (by omega)))
theorem range'_cons (k m : Nat) : List.range' k (m + 1) = k :: List.range' (k + 1) m := by rw [List.range'_succ]
section
variable {h : Heap} {i j n : Nat} {d : List Bind} {x : List Cell} (hd : d.length ≤ 1000) (od : ∀ b ∈ d, b.Ok) (hw : Wk h i j n (.sl 6 (d.map Bind.cells)) x) (hij : i ≠ j) (hj : j < h.length)
include hd od hw hij hj
theorem ask_prog : ∀ (m : Nat) (s p : Ty), SizeOf.sizeOf p < m → s.Ok → s.right = true → p.Ok → p.right = true → ∀ (w : Needs), w.length = n →
    (Room w (ask d n m true s p).1.length → evw E 27 [.hp i 0, .agg s.cells, .agg p.cells] (hN h j w) = some (outP (ask d n m true s p).2, hN h j (pushes w (ask d n m true s p).1))) ∧
    (Room w (ask d n m false s p).1.length → evw E 53 [.hp i 0, .agg p.cells, .agg s.cells] (hN h j w) = some (outP (ask d n m false s p).2, hN h j (pushes w (ask d n m false s p).1)))
  | 0, s, p, hm, _, _, _, _, _, _ => by omega
  | m + 1, s, p, hm, os, rs, op, rp, w, wl => by
    have hlen : p.labels.length ≤ 9223372036854775807 := op.lab
    have hlens : s.labels.length ≤ 9223372036854775807 := os.lab
    have IH := ask_prog m
    refine ⟨fun hr => ?_, fun hr => ?_⟩
    · have hL : p.k = 8 → ∀ (H0 : Heap) (q k : Nat), k ≤ p.labels.length → p.labels.length < q + k → ∀ (w : Needs), w.length = n →
          Room w (sqs ((List.range' k (p.labels.length - k)).map fun i => match fieldM d s (p.labels.getD i ByteArray.empty) with | none => ([], true) | some q => ask d n m true q.2 (p.args.getD i zeroT))).1.length →
          Lp27_0 (evw E) (p.labels.length + 1) H0 q (hN h j w) i (s.cells.getD 0 .dead) (s.cells.getD 1 .dead) (s.cells.getD 2 .dead) (s.cells.getD 3 .dead) (s.cells.getD 4 .dead) (p.cells.getD 0 .dead) (p.cells.getD 1 .dead) (p.cells.getD 2 .dead) (p.cells.getD 3 .dead) (p.cells.getD 4 .dead) (p.cells.getD 3 .dead) (.lit (.int .i64 (p.labels.length : Int))) (.lit (.int .i64 (k : Int))) =
            some (outP (sqs ((List.range' k (p.labels.length - k)).map fun i => match fieldM d s (p.labels.getD i ByteArray.empty) with | none => ([], true) | some q => ask d n m true q.2 (p.args.getD i zeroT))).2, hN h j (pushes w (sqs ((List.range' k (p.labels.length - k)).map fun i => match fieldM d s (p.labels.getD i ByteArray.empty) with | none => ([], true) | some q => ask d n m true q.2 (p.args.getD i zeroT))).1)) := by
        intro h8 H0 q
        have hp8 := right_rec rp h8
        induction q with
        | zero => intro k h1 h2; omega
        | succ q ih =>
          intro k h1 h2 w wl hr
          rw [Lp27_0_succ]
          simp only [bind_some', bin_int, lssI, boolB]
          by_cases hi : k < p.labels.length
          · have hi2 : k < p.args.length := by omega
            obtain ⟨r, hr0⟩ : ∃ r, p.labels.length - k = r + 1 := ⟨p.labels.length - k - 1, by omega⟩
            have hr1 : r = p.labels.length - (k + 1) := by omega
            rw [hr0, range'_cons, List.map_cons, sqs] at hr ⊢
            rw [getD_at hi, getD_at hi2] at hr ⊢
            have hf := field19 d (Nat.le_trans hd (by decide)) od s os p.labels[k] (op.labs p.labels[k] (List.getElem_mem hi)) (hN h j w)
            simp only [ltT hi, condT, atL p hi, atA p hi2, bind_some', part_str, partA_full (Ty.cells_len _), (hw.hN hij w).d, Ty.refold, hf, onOut_ret, tupS, t30, t31, t32, aggS, Ty.cells_len, b5, must52, onOutP]
            cases hM : fieldM d s p.labels[k] with
            | none => simp only [Option.isSome_none, Bool.not_false, condT]; rfl
            | some rg =>
              obtain ⟨r', g⟩ := rg
              rw [hM] at hr
              have og := fieldM_ok od os hM
              have rg := (fieldM_some hM).1
              have i1 := (IH g p.args[k] (by have := Ty.size_arg hi2; omega) og rg (op.arg (List.getElem_mem hi2)) (right_arg rp (List.getElem_mem hi2)) w wl).1
              simp only [Option.isSome_some, Bool.not_true, condF, Option.getD_some, bin_int, addI, incI (show k < 9223372036854775807 by omega), bind_some']
              exact sq_run (K := fun h' => Lp27_0 (evw E) (p.labels.length + 1) H0 q h' i _ _ _ _ _ _ _ _ _ _ _ _ _) wl i1 (fun w' wl' hr' => by rw [hr1] at hr' ⊢; exact ih (k + 1) (by omega) (by omega) w' wl' hr') hr
          · rw [show p.labels.length - k = 0 by omega]
            simp only [ltF hi, condF]; rfl
      refine evw_run primsC (p.labels.length + 1) rfl rfl rfl ?_
      rw [nf27]; simp only [aggS, bind_some', Ty.cells_len, b5, condT, Ty.refold, hasP (hw.hN hij w) p op, is47 (hw.hN hij w), onOut_ret, notB, eT, eqlE, boolB, lenL, (hw.hN hij w).d, pf48, pf50]
      rw [ask] at hr ⊢
      cases hh : p.hasU n with
      | false => rfl
      | true =>
      rw [hh, Bool.not_true, condF] at hr
      rw [Bool.not_true, condF, condF]
      cases hu : p.isU n with
      | true =>
        obtain ⟨k9, kn⟩ := isU_k hu
        rw [hu, condT] at hr
        rw [condT, condT, push48' hw hij hj p s (right_u rp k9) kn w wl hr]; rfl
      | false =>
      rw [hu, condF] at hr
      rw [condF, condF]
      cases h5 : eqd s.k 5 with
      | true =>
        rw [h5, condT] at hr
        have ho := openP hw hij hj p op rp false w wl hr
        rw [condT, condT, show pf i true = pf i (!false) from rfl, ho]; rfl
      | false =>
      rw [h5, condF, condT] at hr
      rw [condF, condF, condT]
      cases h7 : eqd p.k 7 with
      | true =>
        rw [h7, condT] at hr
        rw [condT, condT, fun17 d (Nat.le_trans hd (by decide)) od s os, onOut_ret]
        have lp := right_fn rp (eqd_iff.1 h7)
        have p0 : 0 < p.args.length := by omega
        have p1 : 1 < p.args.length := by omega
        simp only [tupS, t20, t21, bind_some', aggS, Ty.cells_len, b5, condT, must52, onOutP]
        cases hF : funM d s with
        | none => rfl
        | some f =>
          have of := funM_ok od os hF
          obtain ⟨f7, rf, _⟩ := funM_some hF
          have lf := right_fn rf f7
          have f0 : 0 < f.args.length := by omega
          have f1 : 1 < f.args.length := by omega
          rw [hF] at hr
          have hr : Room w (sq (ask d n m false (f.args.getD 0 zeroT) (p.args.getD 0 zeroT)) (ask d n m true (f.args.getD 1 zeroT) (p.args.getD 1 zeroT))).1.length := hr
          show _ = some (outP (sq (ask d n m false (f.args.getD 0 zeroT) (p.args.getD 0 zeroT)) (ask d n m true (f.args.getD 1 zeroT) (p.args.getD 1 zeroT))).2, hN h j (pushes w (sq (ask d n m false (f.args.getD 0 zeroT) (p.args.getD 0 zeroT)) (ask d n m true (f.args.getD 1 zeroT) (p.args.getD 1 zeroT))).1))
          rw [getD_at f0, getD_at f1, getD_at p0, getD_at p1] at hr ⊢
          have i1 := fun w wl => (IH f.args[0] p.args[0] (by have := Ty.size_arg p0; omega) (of.arg (List.getElem_mem f0)) (right_arg rf (List.getElem_mem f0)) (op.arg (List.getElem_mem p0)) (right_arg rp (List.getElem_mem p0)) w wl).2
          have i2 := fun w wl => (IH f.args[1] p.args[1] (by have := Ty.size_arg p1; omega) (of.arg (List.getElem_mem f1)) (right_arg rf (List.getElem_mem f1)) (op.arg (List.getElem_mem p1)) (right_arg rp (List.getElem_mem p1)) w wl).1
          simp only [Option.isSome_some, Bool.not_true, condF, Option.getD_some, atA0 p p0, atA0 f f0, atA1 p p1, atA1 f f1, bind_some', partA_full (Ty.cells_len _)]
          exact sq_run (K := fun h' => onOut (evw E 27 [.hp i 0, .agg (f.args[1]).cells, .agg (p.args[1]).cells] h') (fun _ h2 => some (.ret (.tup []), h2)) (fun _ _ _ => none) (fun q h2 => some (.pan q, h2))) wl (i1 w wl) (fun w' wl' hr' => by
            show onOut _ _ _ _ = _
            rw [i2 w' wl' hr', onOutP]
            cases (ask d n m true f.args[1] p.args[1]).2 <;> rfl) hr
      | false =>
      rw [h7, condF] at hr
      rw [condF, condF]
      cases h8 : eqd p.k 8 with
      | false => rfl
      | true =>
        rw [h8, condT] at hr
        rw [condT, condT]
        exact hL (eqd_iff.1 h8) (hN h j w) (p.labels.length + 1) 0 (Nat.zero_le _) (by omega) w wl hr
    · have hL : s.k = 8 → ∀ (H0 : Heap) (q k : Nat), k ≤ s.labels.length → s.labels.length < q + k → ∀ (w : Needs), w.length = n →
          Room w (sqs ((List.range' k (s.labels.length - k)).map fun i => match fieldT p (s.labels.getD i ByteArray.empty) with | none => ([], true) | some f => ask d n m false (s.args.getD i zeroT) f)).1.length →
          Lp53_0 (evw E) (s.labels.length + 1) H0 q (hN h j w) i (p.cells.getD 0 .dead) (p.cells.getD 1 .dead) (p.cells.getD 2 .dead) (p.cells.getD 3 .dead) (p.cells.getD 4 .dead) (s.cells.getD 0 .dead) (s.cells.getD 1 .dead) (s.cells.getD 2 .dead) (s.cells.getD 3 .dead) (s.cells.getD 4 .dead) (s.cells.getD 3 .dead) (.lit (.int .i64 (s.labels.length : Int))) (.lit (.int .i64 (k : Int))) =
            some (outP (sqs ((List.range' k (s.labels.length - k)).map fun i => match fieldT p (s.labels.getD i ByteArray.empty) with | none => ([], true) | some f => ask d n m false (s.args.getD i zeroT) f)).2, hN h j (pushes w (sqs ((List.range' k (s.labels.length - k)).map fun i => match fieldT p (s.labels.getD i ByteArray.empty) with | none => ([], true) | some f => ask d n m false (s.args.getD i zeroT) f)).1)) := by
        intro h8 H0 q
        have hs8 := right_rec rs h8
        induction q with
        | zero => intro k h1 h2; omega
        | succ q ih =>
          intro k h1 h2 w wl hr
          rw [Lp53_0_succ]
          simp only [bind_some', bin_int, lssI, boolB]
          by_cases hi : k < s.labels.length
          · have hi2 : k < s.args.length := by omega
            obtain ⟨r, hr0⟩ : ∃ r, s.labels.length - k = r + 1 := ⟨s.labels.length - k - 1, by omega⟩
            have hr1 : r = s.labels.length - (k + 1) := by omega
            rw [hr0, range'_cons, List.map_cons, sqs] at hr ⊢
            rw [getD_at hi, getD_at hi2] at hr ⊢
            simp only [ltT hi, condT, atL s hi, atA s hi2, bind_some', part_str, partA_full (Ty.cells_len _), Ty.refold, field174 p op, onOut_ret, tupS, t20, t21, aggS, Ty.cells_len, b5, must52, onOutP]
            cases hM : fieldT p s.labels[k] with
            | none => simp only [Option.isSome_none, Bool.not_false, condT]; rfl
            | some g =>
              rw [hM] at hr
              obtain ⟨gm, _⟩ := fieldT_mem hM
              have gs := arg_size gm
              have i1 := (IH s.args[k] g (by omega) (os.arg (List.getElem_mem hi2)) (right_arg rs (List.getElem_mem hi2)) (op.arg gm) (right_arg rp gm) w wl).2
              simp only [Option.isSome_some, Bool.not_true, condF, Option.getD_some, bin_int, addI, incI (show k < 9223372036854775807 by omega), bind_some']
              exact sq_run (K := fun h' => Lp53_0 (evw E) (s.labels.length + 1) H0 q h' i _ _ _ _ _ _ _ _ _ _ _ _ _) wl i1 (fun w' wl' hr' => by rw [hr1] at hr' ⊢; exact ih (k + 1) (by omega) (by omega) w' wl' hr') hr
          · rw [show s.labels.length - k = 0 by omega]
            simp only [ltF hi, condF]; rfl
      refine evw_run primsC (s.labels.length + 1) rfl rfl rfl ?_
      rw [nf53]; simp only [aggS, bind_some', Ty.cells_len, b5, condT, Ty.refold, hasP (hw.hN hij w) p op, is47 (hw.hN hij w), onOut_ret, notB, eT, eqlE, boolB, lenL, (hw.hN hij w).d, pf48, pf50]
      rw [ask] at hr ⊢
      cases hh : p.hasU n with
      | false => rfl
      | true =>
      rw [hh, Bool.not_true, condF] at hr
      rw [Bool.not_true, condF, condF]
      cases hu : p.isU n with
      | true =>
        obtain ⟨k9, kn⟩ := isU_k hu
        rw [hu, condT] at hr
        rw [condT, condT, push50' hw hij hj p s (right_u rp k9) kn w wl hr]; rfl
      | false =>
      rw [hu, condF] at hr
      rw [condF, condF]
      cases h5 : eqd s.k 5 with
      | true =>
        rw [h5, condT] at hr
        have ho := openP hw hij hj p op rp true w wl hr
        rw [condT, condT, show pf i false = pf i (!true) from rfl, ho]; rfl
      | false =>
      rw [h5, condF, condF] at hr
      rw [condF, condF, condF]
      cases h4 : eqd s.k 4 with
      | true => rfl
      | false =>
      rw [h4, condF] at hr
      rw [condF, condF]
      cases h7 : eqd p.k 7 with
      | true =>
        rw [h7, condT] at hr
        simp only [condT, must52, onOutP]
        have lp := right_fn rp (eqd_iff.1 h7)
        have p0 : 0 < p.args.length := by omega
        have p1 : 1 < p.args.length := by omega
        cases hs7 : eqd s.k 7 with
        | false => rfl
        | true =>
          have ls := right_fn rs (eqd_iff.1 hs7)
          have f0 : 0 < s.args.length := by omega
          have f1 : 1 < s.args.length := by omega
          rw [hs7, condT] at hr
          rw [condT]
          rw [getD_at f0, getD_at f1, getD_at p0, getD_at p1] at hr ⊢
          have i1 := fun w wl => (IH s.args[0] p.args[0] (by have := Ty.size_arg p0; omega) (os.arg (List.getElem_mem f0)) (right_arg rs (List.getElem_mem f0)) (op.arg (List.getElem_mem p0)) (right_arg rp (List.getElem_mem p0)) w wl).1
          have i2 := fun w wl => (IH s.args[1] p.args[1] (by have := Ty.size_arg p1; omega) (os.arg (List.getElem_mem f1)) (right_arg rs (List.getElem_mem f1)) (op.arg (List.getElem_mem p1)) (right_arg rp (List.getElem_mem p1)) w wl).2
          simp only [Bool.not_true, condF, atA0 p p0, atA0 s f0, atA1 p p1, atA1 s f1, bind_some', partA_full (Ty.cells_len _)]
          exact sq_run (K := fun h' => onOut (evw E 53 [.hp i 0, .agg (p.args[1]).cells, .agg (s.args[1]).cells] h') (fun _ h2 => some (.ret (.tup []), h2)) (fun _ _ _ => none) (fun q h2 => some (.pan q, h2))) wl (i1 w wl) (fun w' wl' hr' => by
            show onOut _ _ _ _ = _
            rw [i2 w' wl' hr', onOutP]
            cases (ask d n m false s.args[1] p.args[1]).2 <;> rfl) hr
      | false =>
      rw [h7, condF] at hr
      rw [condF, condF]
      cases h8 : eqd p.k 8 with
      | false => rfl
      | true =>
        rw [h8, condT] at hr
        simp only [condT, must52, onOutP]
        cases hs8 : eqd s.k 8 with
        | false => rfl
        | true =>
          rw [hs8, condT] at hr
          simp only [Bool.not_true, condF, condT]
          exact hL (eqd_iff.1 hs8) (hN h j w) (s.labels.length + 1) 0 (Nat.zero_le _) (by omega) w wl hr
end
end Go.Sh.T

/- Gen: what is asked, and the document's walk. -/
namespace Go.Sh.T
open Go Go.Sh
set_option linter.unusedSimpArgs false
set_option linter.unusedVariables false
set_option maxRecDepth 100000

/-- The heap behind something that is not what it must be. -/
def hX (h : Heap) (i j n : Nat) (D : AV) (w : Needs) : Heap := (hN h j w).set i [.v D, .v (.hs 2 j 0 n), .v (.lit (.bool true))]
def hB (h : Heap) (i j n : Nat) (D : AV) (f : Bool) (w : Needs) : Heap := bif f then hX h i j n D w else hN h j w
abbrev xC (f : Bool) : List Cell := [.v (.lit (.bool f))]
theorem Wk.f {h : Heap} {i j n : Nat} {D : AV} {f : Bool} (hw : Wk h i j n D (xC f)) : hpart false 1 2 i h = some (.lit (.bool f)) := by
  unfold hpart; unfold Wk at hw; rw [hw]; rfl
theorem Wk.lt {h : Heap} {i j n : Nat} {D : AV} {x : List Cell} (hw : Wk h i j n D x) : i < h.length := (List.getElem?_eq_some_iff.1 hw).1
theorem Wk.hX {h : Heap} {i j n : Nat} {D : AV} {x : List Cell} (hw : Wk h i j n D x) (w : Needs) : Wk (hX h i j n D w) i j n D (xC true) := by
  unfold Wk Go.Sh.T.hX; rw [List.getElem?_set_self (by unfold Go.Sh.T.hN; rw [List.length_set]; exact hw.lt)]; rfl
section
variable {h : Heap} {i j n : Nat} {d : List Bind} (hd : d.length ≤ 1000) (od : ∀ b ∈ d, b.Ok) (hw : Wk h i j n (.sl 6 (d.map Bind.cells)) (xC false)) (hij : i ≠ j) (hj : j < h.length)
include hd od hw hij hj
end
end Go.Sh.T

/- Gen: how much is asked. -/
namespace Go.Sh.T
open Go Go.Sh
set_option linter.unusedSimpArgs false
set_option linter.unusedVariables false
set_option maxRecDepth 100000

theorem preL_len : ∀ l : List Ty, (Ty.preL l).length = (l.map fun t => t.pre.length).sum
  | [] => by rw [Ty.preL_nil]; rfl
  | t :: r => by rw [Ty.preL_cons, List.length_append, preL_len r, List.map_cons, List.sum_cons]
mutual
theorem opn_len (n : Nat) (b : Bool) : ∀ t : Ty, (t.opn n b).length ≤ t.pre.length
  | ⟨k, m, s, ls, xs⟩ => by
    rw [Ty.opn_eq, Ty.pre_eq, List.length_cons]
    cases Ty.isU n ⟨k, m, s, ls, xs⟩ with
    | true => rw [condT]; simp
    | false =>
      rw [condF]
      cases eqd (Ty.mk k m s ls xs).k 7 with
      | true => have := opnF_len n b xs; rw [condT]; show (Ty.opnF n b xs).length ≤ (Ty.preL xs).length + 1; omega
      | false => have := opnL_len n b xs; rw [condF]; show (Ty.opnL n b xs).length ≤ (Ty.preL xs).length + 1; omega
theorem opnF_len (n : Nat) (b : Bool) : ∀ l : List Ty, (Ty.opnF n b l).length ≤ (Ty.preL l).length
  | [] => by rw [Ty.opnF]; simp
  | t :: r => by
    rw [Ty.opnF, Ty.preL_cons, List.length_append, List.length_append]
    have h1 := opn_len n (!b) t
    have h2 := opnL_len n b r
    omega
theorem opnL_len (n : Nat) (b : Bool) : ∀ l : List Ty, (Ty.opnL n b l).length ≤ (Ty.preL l).length
  | [] => by rw [Ty.opnL]; simp
  | t :: r => by
    rw [Ty.opnL, Ty.preL_cons, List.length_append, List.length_append]
    have h1 := opn_len n b t
    have h2 := opnL_len n b r
    omega
end
theorem sq_len (x y : Asked) : (sq x y).1.length ≤ x.1.length + y.1.length := by
  unfold sq
  cases x.2 with
  | true => rw [condT]; omega
  | false => rw [condF]; show (x.1 ++ y.1).length ≤ _; rw [List.length_append]; omega
theorem sqs_len : ∀ l : List Asked, (sqs l).1.length ≤ (l.map fun x => x.1.length).sum
  | [] => Nat.zero_le _
  | x :: r => by
    have h1 := sq_len x (sqs r)
    have h2 := sqs_len r
    rw [sqs, List.map_cons, List.sum_cons]; omega
theorem sum_fm (a : Nat → Nat) (idx : Nat → Option Nat) (g : Nat → Nat) : ∀ R : List Nat, (∀ k ∈ R, a k ≤ ((idx k).map g).getD 0) → (R.map a).sum ≤ ((R.filterMap idx).map g).sum
  | [], _ => Nat.le_refl _
  | k :: r, h => by
    have h1 := h k List.mem_cons_self
    have h2 := sum_fm a idx g r (fun x hx => h x (List.mem_cons_of_mem _ hx))
    rw [List.map_cons, List.sum_cons, List.filterMap_cons]
    cases hk : idx k with
    | none => rw [hk] at h1; simp only [Option.map_none, Option.getD_none] at h1; show _ ≤ ((r.filterMap idx).map g).sum; omega
    | some i => rw [hk] at h1; simp only [Option.map_some, Option.getD_some] at h1; show _ ≤ ((i :: r.filterMap idx).map g).sum; rw [List.map_cons, List.sum_cons]; omega
theorem sum_perm {l m : List Nat} (h : l.Perm m) : l.sum = m.sum := by
  induction h with
  | nil => rfl
  | cons x _ ih => rw [List.sum_cons, List.sum_cons, ih]
  | swap x y l => simp only [List.sum_cons]; omega
  | trans _ _ h1 h2 => rw [h1, h2]
theorem sum_nodup (g : Nat → Nat) : ∀ (m : Nat) (L : List Nat), L.Nodup → (∀ x ∈ L, x < m) → (L.map g).sum ≤ ((List.range m).map g).sum
  | 0, L, _, h => by
    cases L with
    | nil => exact Nat.le_refl _
    | cons x r => have := h x List.mem_cons_self; omega
  | m + 1, L, hn, h => by
    rw [List.range_succ, List.map_append, List.sum_append]
    by_cases hm : m ∈ L
    · have hp := List.perm_cons_erase hm
      rw [sum_perm (hp.map g), List.map_cons, List.sum_cons]
      have h2 := sum_nodup g m (L.erase m) (hn.erase m) (fun x hx => by
        have h3 := (List.Nodup.mem_erase_iff hn).1 hx
        have := h x h3.2
        have := h3.1
        omega)
      simp only [List.map_cons, List.map_nil, List.sum_cons, List.sum_nil]
      omega
    · have h2 := sum_nodup g m L hn (fun x hx => by
        have := h x hx
        by_cases e : x = m
        · rw [e] at hx; exact absurd hx hm
        · omega)
      omega
theorem range_getD (l : List Ty) (g : Ty → Nat) : ((List.range l.length).map fun i => g (l.getD i zeroT)).sum = (l.map g).sum := by
  congr 1
  refine List.ext_getElem (by simp) (fun i h1 h2 => ?_)
  have hi : i < l.length := by simpa using h2
  rw [List.getElem_map, List.getElem_range, List.getElem_map, getD_at hi]
theorem ix_str {l : List ByteArray} {x : ByteArray} {i : Nat} (h : ix l x = some i) : ∃ hi : i < l.length, l[i] = x := by
  induction l generalizing i with
  | nil => cases h
  | cons y r ih =>
    rw [ix] at h
    cases he : strEq y x with
    | true =>
      rw [he, cond_true] at h
      have h := Option.some.inj h
      subst h
      exact ⟨by simp, strEq_iff.1 he⟩
    | false =>
      rw [he, cond_false, Option.map_eq_some_iff] at h
      obtain ⟨k, h1, h2⟩ := h
      subst h2
      obtain ⟨h3, h4⟩ := ih h1
      exact ⟨by simpa using h3, h4⟩
theorem rec_len (p s : Ty) (rs : s.right = true) (h8 : s.k = 8) (F : Nat → Asked) (hF : ∀ k, k < s.labels.length → match fieldT p (s.labels.getD k ByteArray.empty) with | none => (F k).1.length = 0 | some f => (F k).1.length ≤ f.pre.length) :
    (sqs ((List.range' 0 s.labels.length).map F)).1.length ≤ (Ty.preL p.args).length := by
  have hs := right_rec rs h8
  refine Nat.le_trans (sqs_len _) ?_
  rw [List.map_map, ← List.range_eq_range']
  let idx : Nat → Option Nat := fun k => bif eqd p.k 8 then (ix p.labels (s.labels.getD k ByteArray.empty)).bind fun i => if i < p.args.length then some i else none else none
  have h1 := sum_fm ((fun x : Asked => x.1.length) ∘ F) idx (fun i => (p.args.getD i zeroT).pre.length) (List.range s.labels.length) (fun k hk => by
    have hk := hF k (List.mem_range.1 hk)
    unfold fieldT at hk
    show (F k).1.length ≤ ((bif eqd p.k 8 then (ix p.labels (s.labels.getD k ByteArray.empty)).bind fun i => if i < p.args.length then some i else none else none).map fun i => (p.args.getD i zeroT).pre.length).getD 0
    cases h : eqd p.k 8 with
    | false => rw [h] at hk; have hk : (F k).1.length = 0 := hk; rw [hk]; exact Nat.zero_le _
    | true =>
      rw [h, cond_true] at hk
      rw [cond_true]
      cases hx : ix p.labels (s.labels.getD k ByteArray.empty) with
      | none => rw [hx] at hk; have hk : (F k).1.length = 0 := hk; rw [hk]; exact Nat.zero_le _
      | some i =>
        rw [hx, Option.bind_some] at hk
        rw [Option.bind_some]
        by_cases hi : i < p.args.length
        · rw [if_pos hi, Option.map_some, Option.getD_some, getD_at hi]
          rw [List.getElem?_eq_getElem hi] at hk; exact hk
        · rw [List.getElem?_eq_none (by omega)] at hk
          have hk : (F k).1.length = 0 := hk
          rw [hk]; exact Nat.zero_le _)
  refine Nat.le_trans h1 ?_
  rw [preL_len, ← range_getD p.args (fun t => t.pre.length)]
  refine sum_nodup (fun i => (p.args.getD i zeroT).pre.length) p.args.length _ ?_ ?_
  · show List.Pairwise (· ≠ ·) _
    rw [List.pairwise_filterMap]
    refine List.Pairwise.imp_of_mem ?_ List.pairwise_lt_range
    intro a b ha hb hab i hi i' hi' e
    have ha := List.mem_range.1 ha
    have hb := List.mem_range.1 hb
    have key : ∀ k, k < s.labels.length → ∀ i, idx k = some i → ix p.labels s.labels[k]! = some i := fun k hk i hi => by
      have hi : (bif eqd p.k 8 then (ix p.labels (s.labels.getD k ByteArray.empty)).bind fun i => if i < p.args.length then some i else none else none) = some i := hi
      cases h : eqd p.k 8 with
      | false => rw [h] at hi; cases hi
      | true =>
        rw [h, cond_true, Option.bind_eq_some_iff] at hi
        obtain ⟨c, h1, h2⟩ := hi
        by_cases hc : c < p.args.length
        · rw [if_pos hc] at h2
          rw [getD_at hk] at h1
          rw [getElem!_pos s.labels k hk, h1, h2]
        · rw [if_neg hc] at h2; cases h2
    have ka := key a ha i hi
    have kb := key b hb i' hi'
    rw [getElem!_pos s.labels a ha] at ka
    rw [getElem!_pos s.labels b hb] at kb
    obtain ⟨_, ea⟩ := ix_str ka
    obtain ⟨_, eb⟩ := ix_str kb
    subst e
    have ra := ix_rising hs.1 (List.getElem?_eq_getElem ha)
    have rb := ix_rising hs.1 (List.getElem?_eq_getElem hb)
    rw [← ea, eb, rb] at ra
    have := Option.some.inj ra
    omega
  · intro i hi
    obtain ⟨k, _, hk⟩ := List.mem_filterMap.1 hi
    have hk : (bif eqd p.k 8 then (ix p.labels (s.labels.getD k ByteArray.empty)).bind fun i => if i < p.args.length then some i else none else none) = some i := hk
    cases h : eqd p.k 8 with
    | false => rw [h] at hk; cases hk
    | true =>
      rw [h, cond_true, Option.bind_eq_some_iff] at hk
      obtain ⟨c, h1, h2⟩ := hk
      by_cases hc : c < p.args.length
      · rw [if_pos hc] at h2; rw [← Option.some.inj h2]; exact hc
      · rw [if_neg hc] at h2; cases h2
theorem ask_len (d : List Bind) (n : Nat) : ∀ (m : Nat) (dir : Bool) (s p : Ty), SizeOf.sizeOf p < m → s.right = true → p.right = true → (ask d n m dir s p).1.length ≤ p.pre.length
  | 0, _, _, _, hm, _, _ => by omega
  | m + 1, dir, s, p, hm, rs, rp => by
    have IH := ask_len d n m
    have hz : ∀ f : Bool, (([], f) : Asked).1.length ≤ p.pre.length := fun _ => Nat.zero_le _
    have hl : p.pre.length = (Ty.preL p.args).length + 1 := by rw [Ty.pre_eq, List.length_cons]
    have two : p.k = 7 → ∀ (h0 : 0 < p.args.length) (h1 : 1 < p.args.length), (p.args[0]).pre.length + (p.args[1]).pre.length ≤ (Ty.preL p.args).length := fun k7 h0 h1 => by
      conv => rhs; rw [list2 (right_fn rp k7)]
      rw [Ty.preL_cons, Ty.preL_cons, Ty.preL_nil, List.append_nil, List.length_append]
      exact Nat.le_refl _
    rw [ask]
    cases p.hasU n with
    | false => exact hz _
    | true =>
    rw [Bool.not_true, condF]
    cases p.isU n with
    | true => show 1 ≤ _; omega
    | false =>
    rw [condF]
    cases eqd s.k 5 with
    | true => exact opn_len n (!dir) p
    | false =>
    rw [condF]
    cases dir with
    | true =>
      rw [condT]
      cases h7 : eqd p.k 7 with
      | true =>
        have k7 := eqd_iff.1 h7
        have lp := right_fn rp k7
        have p0 : 0 < p.args.length := by omega
        have p1 : 1 < p.args.length := by omega
        rw [condT]
        cases hF : funM d s with
        | none => exact hz _
        | some f =>
          obtain ⟨f7, rf, _⟩ := funM_some hF
          have lf := right_fn rf f7
          have f0 : 0 < f.args.length := by omega
          have f1 : 1 < f.args.length := by omega
          show (sq (ask d n m false (f.args.getD 0 zeroT) (p.args.getD 0 zeroT)) (ask d n m true (f.args.getD 1 zeroT) (p.args.getD 1 zeroT))).1.length ≤ _
          rw [getD_at f0, getD_at f1, getD_at p0, getD_at p1]
          have a1 := sq_len (ask d n m false f.args[0] p.args[0]) (ask d n m true f.args[1] p.args[1])
          have a2 := IH false f.args[0] p.args[0] (by have := Ty.size_arg p0; omega) (right_arg rf (List.getElem_mem f0)) (right_arg rp (List.getElem_mem p0))
          have a3 := IH true f.args[1] p.args[1] (by have := Ty.size_arg p1; omega) (right_arg rf (List.getElem_mem f1)) (right_arg rp (List.getElem_mem p1))
          have := two k7 p0 p1
          omega
      | false =>
        rw [condF]
        cases h8 : eqd p.k 8 with
        | false => exact hz _
        | true =>
          have k8 := eqd_iff.1 h8
          have hp8 := right_rec rp k8
          rw [condT]
          refine Nat.le_trans (rec_len p p rp k8 _ (fun k hk => ?_)) (by omega)
          have hk2 : k < p.args.length := by omega
          rw [getD_at hk]
          have hfa := field_at hp8.1 k8 hk (List.getElem?_eq_getElem hk2)
          rw [getD_at hk] at hfa
          rw [hfa]
          cases hM : fieldM d s p.labels[k] with
          | none => exact Nat.zero_le _
          | some rg =>
            obtain ⟨r, g⟩ := rg
            rw [getD_at hk2]
            exact IH true g p.args[k] (by have := Ty.size_arg hk2; omega) (fieldM_some hM).1 (right_arg rp (List.getElem_mem hk2))
    | false =>
      rw [condF]
      cases eqd s.k 4 with
      | true => exact hz _
      | false =>
      rw [condF]
      cases h7 : eqd p.k 7 with
      | true =>
        have k7 := eqd_iff.1 h7
        have lp := right_fn rp k7
        have p0 : 0 < p.args.length := by omega
        have p1 : 1 < p.args.length := by omega
        rw [condT]
        cases hs7 : eqd s.k 7 with
        | false => exact hz _
        | true =>
          have lf := right_fn rs (eqd_iff.1 hs7)
          have f0 : 0 < s.args.length := by omega
          have f1 : 1 < s.args.length := by omega
          rw [condT, getD_at f0, getD_at f1, getD_at p0, getD_at p1]
          have a1 := sq_len (ask d n m true s.args[0] p.args[0]) (ask d n m false s.args[1] p.args[1])
          have a2 := IH true s.args[0] p.args[0] (by have := Ty.size_arg p0; omega) (right_arg rs (List.getElem_mem f0)) (right_arg rp (List.getElem_mem p0))
          have a3 := IH false s.args[1] p.args[1] (by have := Ty.size_arg p1; omega) (right_arg rs (List.getElem_mem f1)) (right_arg rp (List.getElem_mem p1))
          have := two k7 p0 p1
          omega
      | false =>
        rw [condF]
        cases h8 : eqd p.k 8 with
        | false => exact hz _
        | true =>
        rw [condT]
        cases hs8 : eqd s.k 8 with
        | false => exact hz _
        | true =>
          have ks := eqd_iff.1 hs8
          have hs := right_rec rs ks
          rw [condT]
          refine Nat.le_trans (rec_len p s rs ks _ (fun k hk => ?_)) (by omega)
          have hk2 : k < s.args.length := by omega
          rw [getD_at hk]
          cases hM : fieldT p s.labels[k] with
          | none => rfl
          | some g =>
            obtain ⟨gm, _⟩ := fieldT_mem hM
            have gs := arg_size gm
            rw [getD_at hk2]
            exact IH false s.args[k] g (by omega) (right_arg rs (List.getElem_mem hk2)) (right_arg rp gm)
end Go.Sh.T
