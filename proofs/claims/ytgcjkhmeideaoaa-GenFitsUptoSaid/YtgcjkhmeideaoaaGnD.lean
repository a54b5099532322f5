/- GnD: part of the proof: a shadow of the machine that is proved sound, and what the functions of this seat compute. Conditions: none. -/
import Derived.Test.YtgcjkhmeideaoaaGnC
import Derived.Test.YtgcjkhmeideaoaaShB
import Derived.Test.YtgcjkhmeideaoaaRows
set_option linter.unusedSimpArgs false
/- Gen: Of, the program's and the document's. -/
namespace Go.Sh.T
open Go Go.Sh Go.Proofs
set_option linter.unusedSimpArgs false
set_option linter.unusedVariables false
set_option maxRecDepth 100000

def needR (w : Needs) : List (List AV) := w.map fun p => [.sl 5 (p.1.map Ty.cells), .sl 5 (p.2.map Ty.cells)]
def noNeeds (n : Nat) : Needs := List.replicate n ([], [])
theorem noNeeds_len (n : Nat) : (noNeeds n).length = n := List.length_replicate
theorem repl_need : ∀ n : Nat, (repl n ([.nil 5, .nil 5] : List Cell)).map Cell.norm = needC (noNeeds n)
  | 0 => rfl
  | n + 1 => by
    have := repl_need n
    unfold noNeeds at this ⊢
    rw [repl, List.map_append, this, List.replicate_succ, needC]; rfl
theorem noNeeds_room (n m : Nat) (h : m ≤ maxApp) : Room (noNeeds n) m := fun p hp => by
  rw [List.eq_of_mem_replicate hp]; exact ⟨by simpa using h, by simpa using h⟩
theorem needC_len : ∀ w : Needs, (needC w).length = w.length * 2
  | [] => rfl
  | (lo, up) :: r => by rw [needC, List.length_cons, List.length_cons, needC_len r, List.length_cons]; omega
theorem chunk_needs : ∀ w : Needs, chunks 2 w.length ((needC w).map Cell.get) = needR w
  | [] => rfl
  | (lo, up) :: r => by
    rw [needC, List.map_cons, List.map_cons, List.length_cons, chunks]
    show _ :: chunks 2 r.length ((needC r).map Cell.get) = _
    rw [chunk_needs r]; rfl
theorem needR_lt (m : Nat) (w : Needs) : AV.lt m (.sl 2 (needR w)) := .sl _ fun x hx a ha => by
  unfold needR at hx
  obtain ⟨p, _, rfl⟩ := List.mem_map.1 hx
  simp only [List.mem_cons, List.not_mem_nil, or_false] at ha
  rcases ha with e | e
  · rw [e]; exact .sl _ (by rw [← Ty.cellsL_map]; exact Ty.cellsL_lt m _)
  · rw [e]; exact .sl _ (by rw [← Ty.cellsL_map]; exact Ty.cellsL_lt m _)
theorem needC_lt (m : Nat) : ∀ (w : Needs), ∀ c ∈ needC w, c.get.lt m
  | [], c, h => by cases h
  | (lo, up) :: r, c, h => by
    rw [needC] at h
    simp only [List.mem_cons] at h
    rcases h with e | e | e
    · rw [e]; exact .sl _ (by rw [← Ty.cellsL_map]; exact Ty.cellsL_lt m _)
    · rw [e]; exact .sl _ (by rw [← Ty.cellsL_map]; exact Ty.cellsL_lt m _)
    · exact needC_lt m r c e
theorem binds_lt (m : Nat) (d : List Bind) : AV.lt m (.sl 6 (d.map Bind.cells)) := .sl _ fun x hx a ha => by
  obtain ⟨b, _, rfl⟩ := List.mem_map.1 hx
  unfold Bind.cells at ha
  rcases List.mem_cons.1 ha with e | e
  · rw [e]; exact .lit _
  · exact Ty.cells_lt m _ a e

/-- The reference's answer and the program's. -/
noncomputable def ofG (d : List Bind) (N : Int) (s p : Ty) : Needs × Int :=
  bif decide (N < 0) then ([], 1) else bif decide (N > 3) then ([], 1) else bif !s.right then ([], 1) else bif !p.right then ([], 1) else
  bif (ask d N.toNat (SizeOf.sizeOf p + 1) true s p).2 then ([], 13) else (pushes (noNeeds N.toNat) (ask d N.toNat (SizeOf.sizeOf p + 1) true s p).1, 0)

theorem ret_nil {H : FHint} (hb : (H.hb.isEmpty || H.esc) = false) (hr : H.res = true) (e : Int) (h' : Heap) : truncR H [] (.tup [.sl 2 [], .lit (.int .i64 e)]) h' = some (.ret (.tup [.sl 2 [], .lit (.int .i64 e)]), []) := by
  unfold truncR
  rw [hb, hr]
  show trunc H [] (.ret (.tup [.sl 2 [], .lit (.int .i64 e)])) h' = _
  have ho : Out.lt ([] : Heap).length (.ret (.tup [.sl 2 [], .lit (.int .i64 e)])) := AV.lt.tup (fun x hx => by
    simp only [List.mem_cons, List.not_mem_nil, or_false] at hx
    rcases hx with e | e
    · rw [e]; exact needR_lt 0 []
    · rw [e]; exact .lit _)
  rw [trunc_of hb ⟨ho, Nat.zero_le _, .inl rfl⟩]; rfl
theorem ret_needs {H : FHint} (hb : (H.hb.isEmpty || H.esc) = false) (hr : H.res = true) (w : Needs) (j : Nat) (h' : Heap) (hj : h'[j]? = some (needC w)) : truncR H [] (.tup [.hs 2 j 0 w.length, .lit (.int .i64 0)]) h' = some (.ret (.tup [.sl 2 (needR w), .lit (.int .i64 0)]), []) := by
  have e : resA 0 h' (.hs 2 j 0 w.length) = .sl 2 (needR w) := by
    unfold resA
    rw [show Nat.ble 0 j = true from rfl, cond_true, hj]
    show cond (Nat.ble (0 + w.length * 2) (needC w).length) (AV.sl 2 (chunks 2 w.length ((((needC w).map Cell.get).drop 0).take (w.length * 2)))) _ = _
    rw [needC_len, show Nat.ble (0 + w.length * 2) (w.length * 2) = true from by rw [Nat.ble_eq]; omega, cond_true, List.drop_zero, List.take_of_length_le (by rw [List.length_map, needC_len]; omega), chunk_needs]
  unfold truncR
  rw [hb, hr]
  show trunc H [] (.ret (.tup [resA 0 h' (.hs 2 j 0 w.length), .lit (.int .i64 0)])) h' = _
  have ho : Out.lt ([] : Heap).length (.ret (.tup [.sl 2 (needR w), .lit (.int .i64 0)])) := AV.lt.tup (fun x hx => by
    simp only [List.mem_cons, List.not_mem_nil, or_false] at hx
    rcases hx with e | e
    · rw [e]; exact needR_lt 0 w
    · rw [e]; exact .lit _)
  rw [e, trunc_of hb ⟨ho, Nat.zero_le _, .inl rfl⟩]; rfl
theorem h9a : ((E.hint 9).hb.isEmpty || (E.hint 9).esc) = false := by kernel_rfl
theorem h9b : (E.hint 9).res = true := by kernel_rfl
theorem asked25 {h h' : Heap} {f : Nat} {x y z : AV} {b : Bool} (hl : h'.length = h.length) (hh : Heap.lt h.length h') (hf : evw E f [x, y, z] (CD.HA h) = some (outP b, h' ++ [[.v (.lit (.bool false))]])) :
    evw E 25 [.fn f [] [x, y, z]] h = some (.ret (.lit (.bool (!b))), h') := by
  refine evw_prim primsC (p := p25) (by kernel_rfl) ?_
  rw [CD.kF, hf]
  have tr : ∀ c : Bool, trunc CD.H25 h (.ret (.lit (.bool c))) (h' ++ [[.v (.lit (.bool c))]]) = some (.ret (.lit (.bool c)), h') := fun c => by
    have e : (h' ++ [[Cell.v (.lit (.bool c))]]).take h.length = h' := by rw [← hl]; exact List.take_left
    have ho : Out.lt h.length (.ret (.lit (.bool c))) := AV.lt.lit _
    rw [trunc_of (by rfl) ⟨ho, by rw [List.length_append, hl]; exact Nat.le_add_right _ _, .inr (by rw [e]; exact hh)⟩, e]
  cases b with
  | true =>
    show p25 (fun _ _ _ => some (.pan (.ifc 73 (.agg [])), _)) _ _ = _
    rw [CD.kP, ← hl, hstore_app0]
    show Option.bind (some (h' ++ [[Cell.v (.lit (.bool false))]])) _ = _
    rw [Option.bind_some, hpart_app0]
    show trunc CD.H25 h (.ret (.lit (.bool false))) _ = _
    exact tr false
  | false =>
    show p25 (fun _ _ _ => some (.ret (.tup []), _)) _ _ = _
    rw [CD.kR, ← hl, hstore_app0]
    show finish E0 CD.H25 Try.f25 h { s := lkS [(2, CD.hpS h'.length)], h := h' ++ [[Cell.v (.lit (.bool true))]] } = _
    rw [hl, CD.kR2, ← hl, hpart_app0]
    show trunc CD.H25 h (.ret (.lit (.bool true))) _ = _
    exact tr true

def vC (t : Ty) : List Cell := [.v (t.cells.getD 0 .dead), .v (t.cells.getD 1 .dead), .v (t.cells.getD 2 .dead), .v (t.cells.getD 3 .dead), .v (t.cells.getD 4 .dead)]
theorem hpart_vC (t : Ty) (i : Nat) (h : Heap) (hi : h[i]? = some (vC t)) : hpart true 5 0 i h = some (.agg t.cells) := by
  unfold hpart; rw [hi]
  show partA true 5 0 [t.cells.getD 0 .dead, t.cells.getD 1 .dead, t.cells.getD 2 .dead, t.cells.getD 3 .dead, t.cells.getD 4 .dead] = _
  rw [Ty.refold, partA_full (Ty.cells_len _)]
theorem vC_lt (m : Nat) (t : Ty) : ∀ c ∈ vC t, c.get.lt m := fun c hc => by
  have ha : c.get ∈ t.cells := by
    rw [← Ty.refold t]
    unfold vC at hc
    simp only [List.mem_cons, List.not_mem_nil, or_false] at hc ⊢
    rcases hc with e | e | e | e | e <;> rw [e] <;> simp [Cell.get]
  exact Ty.cells_lt m t _ ha
/-- The program's heap. -/
def gH (d : List Bind) (s p : Ty) (n : Nat) (w : Needs) : Heap := [vC s, vC p, needC w, [.v (.sl 6 (d.map Bind.cells)), .v (.hs 2 2 0 n)], [.v (.hp 3 0)]]
theorem gH_lt (d : List Bind) (s p : Ty) (n : Nat) (w : Needs) : Heap.lt 5 (gH d s p n w) := by
  intro cs hcs c hc
  unfold gH at hcs
  simp only [List.mem_cons, List.not_mem_nil, or_false] at hcs
  rcases hcs with e | e | e | e | e
  · rw [e] at hc; exact vC_lt 5 s c hc
  · rw [e] at hc; exact vC_lt 5 p c hc
  · rw [e] at hc; exact needC_lt 5 w c hc
  · rw [e] at hc
    simp only [List.mem_cons, List.not_mem_nil, or_false] at hc
    rcases hc with e | e
    · rw [e]; exact binds_lt 5 d
    · rw [e]; exact .hs _ _ _ (by decide)
  · rw [e] at hc
    simp only [List.mem_cons, List.not_mem_nil, or_false] at hc
    rw [hc]; exact .hp _ (by decide)
theorem run26 (d : List Bind) (hd : d.length ≤ 1000) (od : ∀ b ∈ d, b.Ok) (s p : Ty) (os : s.Ok) (rs : s.right = true) (op : p.Ok) (rp : p.right = true) (n : Nat) (hv : p.pre.length ≤ maxApp) :
    evw E 26 [.hp 4 0, .hp 0 0, .hp 1 0] (CD.HA (gH d s p n (noNeeds n))) = some (outP (ask d n (SizeOf.sizeOf p + 1) true s p).2, gH d s p n (pushes (noNeeds n) (ask d n (SizeOf.sizeOf p + 1) true s p).1) ++ [[.v (.lit (.bool false))]]) := by
  have hw : Wk (CD.HA (gH d s p n (noNeeds n))) 3 2 n (.sl 6 (d.map Bind.cells)) [] := rfl
  have hb : CD.HA (gH d s p n (noNeeds n)) = hN (CD.HA (gH d s p n (noNeeds n))) 2 (noNeeds n) := rfl
  have hr := noNeeds_room n _ (Nat.le_trans (ask_len d n _ true s p (Nat.lt_succ_self _) rs rp) hv)
  have ha := (ask_prog hd od hw (by decide) (show 2 < 6 by decide) _ s p (Nat.lt_succ_self _) os rs op rp (noNeeds n) (noNeeds_len n)).1 hr
  have e1 : hpart false 1 0 4 (CD.HA (gH d s p n (noNeeds n))) = some (.hp 3 0) := rfl
  refine evw_run primsC 0 rfl rfl rfl ?_
  rw [nf26, e1, bind_some']
  show Option.bind (some ((3, 0) : Nat × Nat)) _ = _
  rw [Option.bind_some, hpart_vC s 0 _ rfl, bind_some', hpart_vC p 1 _ rfl, bind_some']
  show onOut (evw E 27 [.hp 3 0, .agg s.cells, .agg p.cells] (CD.HA (gH d s p n (noNeeds n)))) _ _ _ = _
  conv => lhs; arg 1; rw [hb]
  rw [ha, onOutP]
  cases (ask d n (SizeOf.sizeOf p + 1) true s p).2 <;> rfl
theorem of9 (d : List Bind) (hd : d.length ≤ 1000) (od : ∀ b ∈ d, b.Ok) (N : Int) (s p : Ty) (os : s.Ok) (op : p.Ok) (hv : p.pre.length ≤ maxApp) :
    evw E 9 [.sl 6 (d.map Bind.cells), .lit (.int .i64 N), .agg s.cells, .agg p.cells] [] = some (.ret (.tup [.sl 2 (needR (ofG d N s p).1), .lit (.int .i64 (ofG d N s p).2)]), []) := by
  refine evw_run primsC 0 rfl rfl rfl ?_
  rw [nf9]; simp only [aggS, bind_some', Ty.cells_len, b5, condT, bin_int, lssI, gtrI, boolB]
  unfold ofG
  cases h1 : decide (N < 0) with
  | true => exact ret_nil h9a h9b _ _
  | false =>
  rw [condF, condF]
  cases h3 : decide (N > 3) with
  | true => exact ret_nil h9a h9b _ _
  | false =>
  rw [condF, condF]
  have e1 : hpart true 5 0 ([] : Heap).length (([] ++ ([vC s] : Heap)) ++ ([vC p] : Heap)) = some (.agg s.cells) := hpart_vC s 0 _ rfl
  have e2 : hpart true 5 0 (([] ++ ([vC s] : Heap))).length (([] ++ ([vC s] : Heap)) ++ ([vC p] : Heap)) = some (.agg p.cells) := hpart_vC p 1 _ rfl
  unfold vC at e1 e2
  simp only [e1, bind_some', pright_spec s _ os, onOut_ret, notB, boolB, e2, pright_spec p _ op]
  cases rs : s.right with
  | false => exact ret_nil h9a h9b _ _
  | true =>
  rw [Bool.not_true, condF, condF]
  cases rp : p.right with
  | false => exact ret_nil h9a h9b _ _
  | true =>
  rw [Bool.not_true, condF, condF]
  have hN0 : 0 ≤ N := by simpa using h1
  have hN3 : N ≤ 3 := by simpa using h3
  have on1 : AV.one (.sl 6 (d.map Bind.cells)) = true := rfl
  show (cond (decide (N = N) && decide (0 ≤ N) && decide (N ≤ 1048576) && true && true && true) _ _) = _
  rw [decide_eq_true rfl, decide_eq_true hN0, decide_eq_true (show N ≤ 1048576 by omega)]
  simp only [Bool.and_self, condT, on1, repl_need]
  show Option.bind (some (gH d s p N.toNat (noNeeds N.toNat))) _ = _
  rw [Option.bind_some]
  show onOut (evw E 25 [.fn 26 [] [.hp 4 0, .hp 0 0, .hp 1 0]] (gH d s p N.toNat (noNeeds N.toNat))) _ _ _ = _
  have r26 := run26 d hd od s p os rs op rp N.toNat hv
  rw [asked25 (h := gH d s p N.toNat (noNeeds N.toNat)) (h' := gH d s p N.toNat (pushes (noNeeds N.toNat) (ask d N.toNat (SizeOf.sizeOf p + 1) true s p).1)) rfl (gH_lt d s p N.toNat _) r26, onOut_ret, notB, bind_some', boolB, bind_some', Bool.not_not]
  cases hf : (ask d N.toNat (SizeOf.sizeOf p + 1) true s p).2 with
  | true => exact ret_nil h9a h9b _ _
  | false =>
    rw [condF, condF]
    show truncR (E.hint 9) [] (.tup [.hs 2 2 0 N.toNat, .lit (.int .i64 0)]) _ = _
    have hl : (pushes (noNeeds N.toNat) (ask d N.toNat (SizeOf.sizeOf p + 1) true s p).1).length = N.toNat := by rw [pushes_len, noNeeds_len]
    have := ret_needs h9a h9b (pushes (noNeeds N.toNat) (ask d N.toNat (SizeOf.sizeOf p + 1) true s p).1) 2 (gH d s p N.toNat (pushes (noNeeds N.toNat) (ask d N.toNat (SizeOf.sizeOf p + 1) true s p).1)) rfl
    rw [hl] at this
    exact this
end Go.Sh.T

/- Gen: what is asked is of types; Add, Same, few, small. -/
namespace Go.Sh.T
open Go Go.Sh Go.Proofs
set_option linter.unusedSimpArgs false
set_option linter.unusedVariables false
set_option maxRecDepth 100000

mutual
theorem opn_dyn (n : Nat) (b : Bool) : ∀ t : Ty, ∀ e ∈ t.opn n b, e.t = dynT
  | ⟨k, m, s, ls, xs⟩, e, he => by
    rw [Ty.opn_eq] at he
    cases h1 : Ty.isU n ⟨k, m, s, ls, xs⟩ with
    | true => rw [h1, condT] at he; rw [List.mem_singleton.1 he]
    | false =>
      rw [h1, condF] at he
      cases h2 : eqd (Ty.mk k m s ls xs).k 7 with
      | true => rw [h2, condT] at he; exact opnF_dyn n b xs e he
      | false => rw [h2, condF] at he; exact opnL_dyn n b xs e he
theorem opnF_dyn (n : Nat) (b : Bool) : ∀ l : List Ty, ∀ e ∈ Ty.opnF n b l, e.t = dynT
  | [], e, he => by rw [Ty.opnF] at he; cases he
  | t :: r, e, he => by
    rw [Ty.opnF] at he
    rcases List.mem_append.1 he with h | h
    · exact opn_dyn n (!b) t e h
    · exact opnL_dyn n b r e h
theorem opnL_dyn (n : Nat) (b : Bool) : ∀ l : List Ty, ∀ e ∈ Ty.opnL n b l, e.t = dynT
  | [], e, he => by rw [Ty.opnL] at he; cases he
  | t :: r, e, he => by
    rw [Ty.opnL] at he
    rcases List.mem_append.1 he with h | h
    · exact opn_dyn n b t e h
    · exact opnL_dyn n b r e h
end
theorem sq_mem {x y : Asked} {e : Ev} (h : e ∈ (sq x y).1) : e ∈ x.1 ∨ e ∈ y.1 := by
  unfold sq at h
  cases hx : x.2 with
  | true => rw [hx, condT] at h; exact .inl h
  | false => rw [hx, condF] at h; exact List.mem_append.1 h
theorem sqs_mem : ∀ {l : List Asked} {e : Ev}, e ∈ (sqs l).1 → ∃ x ∈ l, e ∈ x.1
  | [], e, h => by cases h
  | x :: r, e, h => by
    rw [sqs] at h
    rcases sq_mem h with h | h
    · exact ⟨x, List.mem_cons_self, h⟩
    · obtain ⟨y, h1, h2⟩ := sqs_mem h; exact ⟨y, List.mem_cons_of_mem _ h1, h2⟩
theorem ask_all {d : List Bind} (od : ∀ b ∈ d, b.Ok) (n : Nat) : ∀ (m : Nat) (dir : Bool) (s p : Ty), SizeOf.sizeOf p < m → s.Ok → s.right = true → p.Ok → p.right = true → ∀ e ∈ (ask d n m dir s p).1, e.t.Ok ∧ e.t.right = true
  | 0, _, _, _, hm, _, _, _, _ => by omega
  | m + 1, dir, s, p, hm, os, rs, op, rp => by
    have IH := ask_all od n m
    have hz : ∀ f : Bool, ∀ e ∈ (([], f) : Asked).1, e.t.Ok ∧ e.t.right = true := fun _ e he => by cases he
    rw [ask]
    cases p.hasU n with
    | false => exact hz _
    | true =>
    rw [Bool.not_true, condF]
    cases p.isU n with
    | true =>
      intro e he
      have he : e ∈ [(⟨!dir, p.n.toNat, s⟩ : Ev)] := he
      rw [List.mem_singleton.1 he]; exact ⟨os, rs⟩
    | false =>
    rw [condF]
    cases eqd s.k 5 with
    | true => intro e he; rw [opn_dyn n (!dir) p e he]; exact ⟨dynT_ok, dynT_right⟩
    | false =>
    rw [condF]
    cases dir with
    | true =>
      rw [condT]
      cases h7 : eqd p.k 7 with
      | true =>
        have lp := right_fn rp (eqd_iff.1 h7)
        have p0 : 0 < p.args.length := by omega
        have p1 : 1 < p.args.length := by omega
        rw [condT]
        cases hF : funM d s with
        | none => exact hz _
        | some f =>
          obtain ⟨f7, rf, _⟩ := funM_some hF
          have of := funM_ok od os hF
          have lf := right_fn rf f7
          have f0 : 0 < f.args.length := by omega
          have f1 : 1 < f.args.length := by omega
          show ∀ e ∈ (sq (ask d n m false (f.args.getD 0 zeroT) (p.args.getD 0 zeroT)) (ask d n m true (f.args.getD 1 zeroT) (p.args.getD 1 zeroT))).1, _
          rw [getD_at f0, getD_at f1, getD_at p0, getD_at p1]
          intro e he
          rcases sq_mem he with h | h
          · exact IH false f.args[0] p.args[0] (by have := Ty.size_arg p0; omega) (of.arg (List.getElem_mem f0)) (right_arg rf (List.getElem_mem f0)) (op.arg (List.getElem_mem p0)) (right_arg rp (List.getElem_mem p0)) e h
          · exact IH true f.args[1] p.args[1] (by have := Ty.size_arg p1; omega) (of.arg (List.getElem_mem f1)) (right_arg rf (List.getElem_mem f1)) (op.arg (List.getElem_mem p1)) (right_arg rp (List.getElem_mem p1)) e h
      | false =>
        rw [condF]
        cases h8 : eqd p.k 8 with
        | false => exact hz _
        | true =>
          have hp8 := right_rec rp (eqd_iff.1 h8)
          rw [condT]
          intro e he
          obtain ⟨x, hx, hex⟩ := sqs_mem he
          obtain ⟨k, hk, rfl⟩ := List.mem_map.1 hx
          have hk : k < p.labels.length := by have := List.mem_range'_1.1 hk; omega
          have hk2 : k < p.args.length := by omega
          rw [getD_at hk, getD_at hk2] at hex
          cases hM : fieldM d s p.labels[k] with
          | none => rw [hM] at hex; exact hz _ e hex
          | some rg =>
            obtain ⟨r, g⟩ := rg
            rw [hM] at hex
            exact IH true g p.args[k] (by have := Ty.size_arg hk2; omega) (fieldM_ok od os hM) (fieldM_some hM).1 (op.arg (List.getElem_mem hk2)) (right_arg rp (List.getElem_mem hk2)) e hex
    | false =>
      rw [condF]
      cases eqd s.k 4 with
      | true => exact hz _
      | false =>
      rw [condF]
      cases h7 : eqd p.k 7 with
      | true =>
        have lp := right_fn rp (eqd_iff.1 h7)
        have p0 : 0 < p.args.length := by omega
        have p1 : 1 < p.args.length := by omega
        rw [condT]
        cases hs7 : eqd s.k 7 with
        | false => exact hz _
        | true =>
          have lf := right_fn rs (eqd_iff.1 hs7)
          have f0 : 0 < s.args.length := by omega
          have f1 : 1 < s.args.length := by omega
          rw [condT, getD_at f0, getD_at f1, getD_at p0, getD_at p1]
          intro e he
          rcases sq_mem he with h | h
          · exact IH true s.args[0] p.args[0] (by have := Ty.size_arg p0; omega) (os.arg (List.getElem_mem f0)) (right_arg rs (List.getElem_mem f0)) (op.arg (List.getElem_mem p0)) (right_arg rp (List.getElem_mem p0)) e h
          · exact IH false s.args[1] p.args[1] (by have := Ty.size_arg p1; omega) (os.arg (List.getElem_mem f1)) (right_arg rs (List.getElem_mem f1)) (op.arg (List.getElem_mem p1)) (right_arg rp (List.getElem_mem p1)) e h
      | false =>
        rw [condF]
        cases h8 : eqd p.k 8 with
        | false => exact hz _
        | true =>
        rw [condT]
        cases hs8 : eqd s.k 8 with
        | false => exact hz _
        | true =>
          have hs := right_rec rs (eqd_iff.1 hs8)
          rw [condT]
          intro e he
          obtain ⟨x, hx, hex⟩ := sqs_mem he
          obtain ⟨k, hk, rfl⟩ := List.mem_map.1 hx
          have hk : k < s.labels.length := by have := List.mem_range'_1.1 hk; omega
          have hk2 : k < s.args.length := by omega
          rw [getD_at hk, getD_at hk2] at hex
          cases hM : fieldT p s.labels[k] with
          | none => rw [hM] at hex; exact hz _ e hex
          | some g =>
            rw [hM] at hex
            obtain ⟨gm, _⟩ := fieldT_mem hM
            have gs := arg_size gm
            exact IH false s.args[k] g (by omega) (os.arg (List.getElem_mem hk2)) (right_arg rs (List.getElem_mem hk2)) (op.arg gm) (right_arg rp gm) e hex
def WOk (w : Needs) : Prop := ∀ p ∈ w, (∀ t ∈ p.1, t.Ok) ∧ (∀ t ∈ p.2, t.Ok)
theorem push1_ok : ∀ {w : Needs} (k : Nat) (up : Bool) {t : Ty}, WOk w → t.Ok → WOk (push1 w k up t)
  | [], _, _, _, h, _ => h
  | q :: r, 0, up, t, h, ot => fun p hp => by
    rw [push1] at hp
    rcases List.mem_cons.1 hp with e | e
    · have hq := h q List.mem_cons_self
      rw [e]
      cases up with
      | true => exact ⟨hq.1, fun x hx => by rcases List.mem_append.1 hx with e | e; exact hq.2 x e; rw [List.mem_singleton.1 e]; exact ot⟩
      | false => exact ⟨fun x hx => by rcases List.mem_append.1 hx with e | e; exact hq.1 x e; rw [List.mem_singleton.1 e]; exact ot, hq.2⟩
    · exact h p (List.mem_cons_of_mem _ e)
  | q :: r, k + 1, up, t, h, ot => fun p hp => by
    rw [push1] at hp
    rcases List.mem_cons.1 hp with e | e
    · rw [e]; exact h q List.mem_cons_self
    · exact push1_ok k up (fun p' hp' => h p' (List.mem_cons_of_mem _ hp')) ot p e
theorem pushes_ok : ∀ (l : List Ev) {w : Needs}, WOk w → (∀ e ∈ l, e.t.Ok) → WOk (pushes w l)
  | [], _, h, _ => h
  | e :: l, w, h, he => by rw [pushes_cons]; exact pushes_ok l (push1_ok _ _ h (he e List.mem_cons_self)) (fun x hx => he x (List.mem_cons_of_mem _ hx))
theorem noNeeds_ok (n : Nat) : WOk (noNeeds n) := fun p hp => by
  rw [List.eq_of_mem_replicate hp]; exact ⟨fun t h => (by cases h), fun t h => (by cases h)⟩
theorem ofG_ok {d : List Bind} (od : ∀ b ∈ d, b.Ok) (N : Int) (s p : Ty) (os : s.Ok) (op : p.Ok) (hv : p.pre.length ≤ maxApp) : WOk (ofG d N s p).1 ∧ Room (ofG d N s p).1 0 ∧ (ofG d N s p).1.length ≤ 3 := by
  have hz : ∀ e : Int, WOk (([], e) : Needs × Int).1 ∧ Room (([], e) : Needs × Int).1 0 ∧ (([], e) : Needs × Int).1.length ≤ 3 := fun _ => ⟨fun p h => (by cases h), fun p h => (by cases h), Nat.zero_le _⟩
  unfold ofG
  cases h1 : decide (N < 0) with
  | true => exact hz _
  | false =>
  rw [condF]
  cases h3 : decide (N > 3) with
  | true => exact hz _
  | false =>
  rw [condF]
  cases rs : s.right with
  | false => exact hz _
  | true =>
  rw [Bool.not_true, condF]
  cases rp : p.right with
  | false => exact hz _
  | true =>
  rw [Bool.not_true, condF]
  have hN3 : N ≤ 3 := by simpa using h3
  cases hf : (ask d N.toNat (SizeOf.sizeOf p + 1) true s p).2 with
  | true => exact hz _
  | false =>
    rw [condF]
    have hr := noNeeds_room N.toNat _ (Nat.le_trans (ask_len d N.toNat _ true s p (Nat.lt_succ_self _) rs rp) hv)
    refine ⟨pushes_ok _ (noNeeds_ok _) (fun e he => (ask_all od N.toNat _ true s p (Nat.lt_succ_self _) os rs op rp e he).1), Room.pushes _ (by rw [Nat.zero_add]; exact hr), ?_⟩
    show (pushes (noNeeds N.toNat) _).length ≤ 3
    rw [pushes_len, noNeeds_len]; omega

/- the same lists -/
theorem needR_at (w : Needs) {i : Nat} (hi : i < w.length) : indexA 2 (.sl 2 (needR w)) (.lit (.int .i64 (i : Int))) = some [.sl 5 (w[i].1.map Ty.cells), .sl 5 (w[i].2.map Ty.cells)] := indexA_map w (fun p => [.sl 5 (p.1.map Ty.cells), .sl 5 (p.2.map Ty.cells)]) 2 i hi
theorem needR_len (w : Needs) : (needR w).length = w.length := List.length_map _
theorem part2a (x y : AV) : partA false 1 0 (([x, y] : List AV).drop 0) = some x := (Eq.refl _).trans rfl
theorem part2b (x y : AV) : partA false 1 0 (([x, y] : List AV).drop 1) = some y := (Eq.refl _).trans rfl
theorem len2 (x y : AV) : ([x, y] : List AV).length = 2 := rfl
/- few -/
end Go.Sh.T

/- Gen: Add. -/
namespace Go.Sh.T
open Go Go.Sh Go.Proofs
set_option linter.unusedSimpArgs false
set_option linter.unusedVariables false
set_option maxRecDepth 100000

abbrev atN (l : Needs) (i : Nat) : List Ty × List Ty := l.getD i ([], [])
def plusN (p q : List Ty × List Ty) : List Ty × List Ty := (p.1 ++ q.1, p.2 ++ q.2)
def sumN (a b : Needs) : Needs := (List.range (max a.length b.length)).map fun i => plusN (atN a i) (atN b i)
def flat (w : Needs) : List AV := (needC w).map Cell.get
theorem flat_cons (p : List Ty × List Ty) (w : Needs) : flat (p :: w) = .sl 5 (p.1.map Ty.cells) :: .sl 5 (p.2.map Ty.cells) :: flat w := rfl
theorem flat_at : ∀ (w : Needs) (k : Nat) (hk : k < w.length), (flat w)[k * 2]? = some (.sl 5 (w[k].1.map Ty.cells)) ∧ (flat w)[k * 2 + 1]? = some (.sl 5 (w[k].2.map Ty.cells))
  | p :: w, 0, _ => ⟨rfl, rfl⟩
  | p :: w, k + 1, hk => by
    have := flat_at w k (by simpa using hk)
    rw [flat_cons, show (k + 1) * 2 = k * 2 + 2 by omega]; exact this
theorem flat_set : ∀ (w : Needs) (k : Nat) (hk : k < w.length) (p : List Ty × List Ty), ((flat w).set (k * 2) (.sl 5 (p.1.map Ty.cells))).set (k * 2 + 1) (.sl 5 (p.2.map Ty.cells)) = flat (w.set k p)
  | q :: w, 0, _, p => rfl
  | q :: w, k + 1, hk, p => by
    have := flat_set w k (by simpa using hk) p
    show ((AV.sl 5 (q.1.map Ty.cells) :: .sl 5 (q.2.map Ty.cells) :: flat w).set ((k + 1) * 2) _).set ((k + 1) * 2 + 1) _ = AV.sl 5 (q.1.map Ty.cells) :: .sl 5 (q.2.map Ty.cells) :: flat (w.set k p)
    rw [show (k + 1) * 2 = k * 2 + 2 by omega, ← this]; rfl
theorem flat_len (w : Needs) : (flat w).length = w.length * 2 := by unfold flat; rw [List.length_map, needC_len]
theorem hpart_one (cs : List Cell) (off : Nat) (a : AV) (h : (cs.map Cell.get)[off]? = some a) : hpart false 1 off 0 [cs] = some a := by
  show partA false 1 off (cs.map Cell.get) = some a
  unfold partA
  simpa using h
theorem hstore_one (cs : List Cell) (off : Nat) (c : Cell) (h : off < cs.length) : hstore [cs] 0 off [c] = some [cs.set off c] := by
  show (splice cs off [c]).map (fun cs' => ([cs] : Heap).set 0 cs') = _
  unfold splice
  rw [show Nat.ble (off + [c].length) cs.length = true from by rw [Nat.ble_eq]; exact h, condT, Option.map_some]
  show some [cs.take off ++ [c] ++ cs.drop (off + 1)] = _
  rw [List.set_eq_take_append_cons_drop (l := cs), if_pos h]; simp
theorem concat_run (xs ys : List Ty) (hm : xs.length + ys.length ≤ maxApp) (h : Heap) : evw E 30 [.sl 1 [[.sl 5 (xs.map Ty.cells)], [.sl 5 (ys.map Ty.cells)]]] h = some (.ret (.sl 5 ((xs ++ ys).map Ty.cells)), h) := by
  refine evw_prim primsC (p := p30) (by kernel_rfl) ?_
  show cond (Nat.ble ((xs.map Ty.cells).length + (ys.map Ty.cells).length) maxApp) _ _ = _
  rw [List.length_map, List.length_map, show Nat.ble (xs.length + ys.length) maxApp = true from by rw [Nat.ble_eq]; exact hm, condT, List.map_append]
theorem sameH_self {ρ : Type} (h : Heap) (x : Option ρ) : sameH h h x = x := by unfold sameH; rw [if_pos rfl]
def Few8 (w : Needs) : Prop := ∀ i, (atN w i).1.length ≤ 8 ∧ (atN w i).2.length ≤ 8
theorem few8_of {w : Needs} (h : ∀ p ∈ w, p.1.length ≤ 8 ∧ p.2.length ≤ 8) : Few8 w := fun i => by
  by_cases hi : i < w.length
  · rw [atN, getD_at hi]; exact h _ (List.getElem_mem hi)
  · rw [atN, List.getD_eq_getElem?_getD, List.getElem?_eq_none (by omega)]; exact ⟨Nat.zero_le _, Nat.zero_le _⟩
theorem h12a : ((E.hint 12).hb.isEmpty || (E.hint 12).esc) = false := by kernel_rfl
theorem h12b : (E.hint 12).res = true := by kernel_rfl
theorem ret_hs {H : FHint} (hb : (H.hb.isEmpty || H.esc) = false) (hr : H.res = true) (w : Needs) (cs : List Cell) (hc : cs.map Cell.get = flat w) : truncR H [] (.hs 2 0 0 w.length) [cs] = some (.ret (.sl 2 (needR w)), []) := by
  have hl : cs.length = w.length * 2 := by rw [← flat_len, ← hc, List.length_map]
  have e : resA 0 [cs] (.hs 2 0 0 w.length) = .sl 2 (needR w) := by
    show cond (Nat.ble (0 + w.length * 2) cs.length) (AV.sl 2 (chunks 2 w.length (((cs.map Cell.get).drop 0).take (w.length * 2)))) _ = _
    rw [hl, show Nat.ble (0 + w.length * 2) (w.length * 2) = true from by rw [Nat.ble_eq]; omega, cond_true, List.drop_zero, hc, List.take_of_length_le (by rw [flat_len]; omega)]
    exact congrArg _ (chunk_needs w)
  unfold truncR
  rw [hb, hr]
  show trunc H [] (.ret (resA 0 [cs] (.hs 2 0 0 w.length))) [cs] = _
  have ho : Out.lt ([] : Heap).length (.ret (.sl 2 (needR w))) := needR_lt 0 w
  rw [e, trunc_of hb ⟨ho, Nat.zero_le _, .inl rfl⟩]; rfl
theorem pA2 (x y : AV) : partA true 2 0 [x, y] = some (.agg [x, y]) := (Eq.refl _).trans rfl
theorem one_sl (n : Nat) (es : List (List AV)) : AV.one (.sl n es) = true := rfl
/-- One list's needs are added. -/
theorem add_loop (N : Nat) (m0 n : Nat) (h0 : Heap) (z : List (List AV)) (x22 : AV) (x23 : Int) (l : Needs) (hl : l.length ≤ n) (hn : n ≤ 1048576) (hf : Few8 l) : ∀ (q k : Nat), k ≤ l.length → l.length < q + k → ∀ (w : Needs) (cs : List Cell), w.length = n → cs.map Cell.get = flat w → (∀ i, k ≤ i → (atN w i).1.length + 8 ≤ maxApp ∧ (atN w i).2.length + 8 ≤ maxApp) →
    ∃ (w' : Needs) (cs' : List Cell), w'.length = n ∧ cs'.map Cell.get = flat w' ∧ (∀ i, atN w' i = if k ≤ i ∧ i < l.length then plusN (atN w i) (atN l i) else atN w i) ∧
      Lp12_1 (evw E) N h0 m0 q [cs] 0 0 n z x22 (.lit (.int .i64 x23)) (.sl 2 (needR l)) (.lit (.int .i64 (l.length : Int))) (.lit (.int .i64 (k : Int))) = Lp12_0 (evw E) N h0 m0 [cs'] 0 0 n z x22 (.lit (.int .i64 (add64 x23 1))) := by
  intro q
  induction q with
  | zero => intro k h1 h2; omega
  | succ q ih =>
    intro k h1 h2 w cs wl hc hr
    by_cases hi : k < l.length
    · have hkw : k < w.length := by omega
      have hfk := hf k
      have hrk := hr k (Nat.le_refl _)
      rw [atN, getD_at hi] at hfk
      rw [atN, getD_at hkw] at hrk
      obtain ⟨f1, f2⟩ := flat_at w k hkw
      have hlen : cs.length = n * 2 := by rw [← wl, ← flat_len, ← hc, List.length_map]
      have ix : indexH 2 (.hs 2 0 0 n) (.lit (.int .i64 (k : Int))) = some (0, k * 2) := by
        rw [indexH_at (by omega) (by omega)]; simp
      have p1 : hpart false 1 (k * 2) 0 [cs] = some (.sl 5 (w[k].1.map Ty.cells)) := hpart_one _ _ _ (by rw [hc]; exact f1)
      have s1 := fun a => hstore_one cs (k * 2) (.v a) (by omega)
      have p2 : hpart false 1 (k * 2 + 1) 0 [cs.set (k * 2) (.v (.sl 5 ((w[k].1 ++ l[k].1).map Ty.cells)))] = some (.sl 5 (w[k].2.map Ty.cells)) := hpart_one _ _ _ (by
        rw [List.map_set, hc, List.getElem?_set_ne (by omega)]; exact f2)
      have s2 := fun a => hstore_one (cs.set (k * 2) (.v (.sl 5 ((w[k].1 ++ l[k].1).map Ty.cells)))) (k * 2 + 1) (.v a) (by rw [List.length_set]; omega)
      have hw' : (((cs.set (k * 2) (.v (.sl 5 ((w[k].1 ++ l[k].1).map Ty.cells)))).set (k * 2 + 1) (.v (.sl 5 ((w[k].2 ++ l[k].2).map Ty.cells)))).map Cell.get) = flat (w.set k (plusN w[k] l[k])) := by
        rw [List.map_set, List.map_set, hc]
        exact flat_set w k hkw (plusN w[k] l[k])
      have hat : ∀ i, atN (w.set k (plusN w[k] l[k])) i = if i = k then plusN w[k] l[k] else atN w i := fun i => by
        rw [atN, List.getD_eq_getElem?_getD, List.getElem?_set]
        by_cases e : k = i
        · rw [if_pos e, if_pos hkw, if_pos e.symm]; rfl
        · rw [if_neg e, if_neg (fun h => e h.symm), atN, List.getD_eq_getElem?_getD]
      obtain ⟨w2, cs2, r1, r2, r3, r4⟩ := ih (k + 1) hi (by omega) (w.set k (plusN w[k] l[k])) _ (by rw [List.length_set, wl]) hw' (fun i hki => by
        rw [hat, if_neg (by omega)]; exact hr i (by omega))
      refine ⟨w2, cs2, r1, r2, fun i => ?_, ?_⟩
      · rw [r3 i, hat]
        by_cases e : i = k
        · subst e
          rw [if_neg (by omega), if_pos rfl, if_pos ⟨Nat.le_refl _, hi⟩, atN, atN, getD_at hkw, getD_at hi]
        · by_cases e2 : k + 1 ≤ i ∧ i < l.length
          · rw [if_pos e2, if_neg e, if_pos ⟨by omega, e2.2⟩]
          · rw [if_neg e2, if_neg e, if_neg (by omega)]
      · rw [Lp12_1_succ]
        simp only [bin_int, lssI, bind_some', boolB, ltT hi, condT, needR_at l hi, pA2, aggS, b2, g0, g1, ix, p1, one_sl, concat_run w[k].1 l[k].1 (by omega), onOut_ret, sameH_self, s1, p2, concat_run w[k].2 l[k].2 (by omega), s2, addI, incI (show k < 9223372036854775807 by omega)]
        exact r4
    · refine ⟨w, cs, wl, hc, fun i => by rw [if_neg (by omega)], ?_⟩
      rw [Lp12_1_succ]
      simp only [bin_int, lssI, bind_some', boolB, ltF hi, condF, addI]

theorem atN_no (n i : Nat) : atN (noNeeds n) i = ([], []) := by
  rw [atN, List.getD_eq_getElem?_getD]
  unfold noNeeds
  rw [List.getElem?_replicate]
  by_cases h : i < n <;> simp [h]
theorem atN_out {w : Needs} {i : Nat} (h : w.length ≤ i) : atN w i = ([], []) := by
  rw [atN, List.getD_eq_getElem?_getD, List.getElem?_eq_none h]; rfl
theorem needs_ext {a b : Needs} (h1 : a.length = b.length) (h : ∀ i, atN a i = atN b i) : a = b := by
  refine List.ext_getElem h1 fun i hi hj => ?_
  have := h i
  rwa [atN, atN, getD_at hi, getD_at hj] at this
theorem sumN_at (a b : Needs) (i : Nat) : atN (sumN a b) i = plusN (atN a i) (atN b i) := by
  by_cases h : i < max a.length b.length
  · rw [atN, getD_at (by unfold sumN; rw [List.length_map, List.length_range]; exact h)]
    unfold sumN
    rw [List.getElem_map, List.getElem_range]
  · rw [atN_out (by unfold sumN; rw [List.length_map, List.length_range]; omega), atN_out (show a.length ≤ i by omega), atN_out (show b.length ≤ i by omega)]; rfl
theorem plus_nil (p : List Ty × List Ty) : plusN ([], []) p = p := by unfold plusN; simp
theorem plus_nil' (p : List Ty × List Ty) : plusN p ([], []) = p := by unfold plusN; simp
theorem add12 (a b : Needs) (ha : a.length ≤ 1000) (hb : b.length ≤ 1000) (fa : Few8 a) (fb : Few8 b) : evw E 12 [.sl 2 (needR a), .sl 2 (needR b)] [] = some (.ret (.sl 2 (needR (sumN a b))), []) := by
  have ml : max a.length b.length ≤ 1048576 := by omega
  have r0 : ∀ i, 0 ≤ i → (atN (noNeeds (max a.length b.length)) i).1.length + 8 ≤ maxApp ∧ (atN (noNeeds (max a.length b.length)) i).2.length + 8 ≤ maxApp := fun i _ => by
    rw [atN_no]; exact ⟨by decide, by decide⟩
  have mx : 16 ≤ maxApp := by decide
  obtain ⟨w1, c1, l1, e1, g1, s1⟩ := add_loop (max a.length b.length + 10) (max a.length b.length + 9) (max a.length b.length) [] [[.sl 2 (needR a)], [.sl 2 (needR b)]] (.lit (.int .i64 2)) 0 a (by omega) ml fa (max a.length b.length + 10) 0 (by omega) (by omega) (noNeeds (max a.length b.length)) (needC (noNeeds _)) (noNeeds_len _) rfl r0
  have g1 : ∀ i, atN w1 i = atN a i := fun i => by
    rw [g1 i, atN_no]
    by_cases h : 0 ≤ i ∧ i < a.length
    · rw [if_pos h, plus_nil]
    · rw [if_neg h, atN_out (show a.length ≤ i by omega)]
  obtain ⟨w2, c2, l2, e2, g2, s2⟩ := add_loop (max a.length b.length + 10) (max a.length b.length + 8) (max a.length b.length) [] [[.sl 2 (needR a)], [.sl 2 (needR b)]] (.lit (.int .i64 2)) 1 b (by omega) ml fb (max a.length b.length + 10) 0 (by omega) (by omega) w1 c1 l1 e1 (fun i _ => by rw [g1 i]; have := fa i; omega)
  have hw2 : w2 = sumN a b := needs_ext (by rw [l2]; unfold sumN; rw [List.length_map, List.length_range]) (fun i => by
    rw [g2 i, g1 i, sumN_at]
    by_cases h : 0 ≤ i ∧ i < b.length
    · rw [if_pos h]
    · rw [if_neg h, atN_out (show b.length ≤ i by omega), plus_nil'])
  have i0 : add64 0 1 = 1 := by decide
  have i1 : add64 1 1 = 2 := by decide
  rw [i0] at s1
  rw [i1] at s2
  have s1 : Lp12_1 (evw E) (max a.length b.length + 10) [] (max a.length b.length + 9) (max a.length b.length + 10) [needC (noNeeds (max a.length b.length))] 0 0 (max a.length b.length) [[.sl 2 (needR a)], [.sl 2 (needR b)]] (.lit (.int .i64 2)) (.lit (.int .i64 0)) (.sl 2 (needR a)) (.lit (.int .i64 (a.length : Int))) (.lit (.int .i64 0)) = _ := s1
  have s2 : Lp12_1 (evw E) (max a.length b.length + 10) [] (max a.length b.length + 8) (max a.length b.length + 10) [c1] 0 0 (max a.length b.length) [[.sl 2 (needR a)], [.sl 2 (needR b)]] (.lit (.int .i64 2)) (.lit (.int .i64 1)) (.sl 2 (needR b)) (.lit (.int .i64 (b.length : Int))) (.lit (.int .i64 0)) = _ := s2
  have x0 : indexA 1 (.sl 1 [[.sl 2 (needR a)], [.sl 2 (needR b)]]) (.lit (.int .i64 0)) = some [.sl 2 (needR a)] := (Eq.refl _).trans rfl
  have x1 : indexA 1 (.sl 1 [[.sl 2 (needR a)], [.sl 2 (needR b)]]) (.lit (.int .i64 1)) = some [.sl 2 (needR b)] := (Eq.refl _).trans rfl
  have pt : ∀ x : AV, partA false 1 0 [x] = some x := fun x => (Eq.refl _).trans rfl
  have l62 : ∀ x y : List AV, lenA E 62 (.sl 1 [x, y]) = some 2 := fun x y => (Eq.refl _).trans (by kernel_rfl)
  have d0 : decide ((0 : Int) < 2) = true := by decide
  have d1 : decide ((1 : Int) < 2) = true := by decide
  have d2 : decide ((2 : Int) < 2) = false := by decide
  have mxs : maxs (.lit (.int .i64 (a.length : Int))) [.lit (.int .i64 (b.length : Int))] = some (.lit (.int .i64 ((max a.length b.length : Nat) : Int))) := by
    show some (AV.lit (.int .i64 (if (b.length : Int) > (a.length : Int) then (b.length : Int) else (a.length : Int)))) = _
    by_cases h : (b.length : Int) > (a.length : Int)
    · rw [if_pos h, Nat.max_eq_right (by omega)]
    · rw [if_neg h, Nat.max_eq_left (by omega)]
  have io : ∀ n : Int, intOf (.lit (.int .i64 n)) = some n := fun n => (Eq.refl _).trans rfl
  refine evw_run primsC (max a.length b.length + 10) rfl rfl rfl ?_
  rw [nf12]
  simp only [lenA27, needR_len, bind_some', mxs, io, one_sl, condT, l62, decide_eq_true (show (0 : Int) ≤ ((max a.length b.length : Nat) : Int) by omega), decide_eq_true (show ((max a.length b.length : Nat) : Int) ≤ 1048576 by omega), Bool.and_self, decide_true, Int.toNat_natCast, repl_need]
  show Lp12_0 (evw E) (max a.length b.length + 10) [] (max a.length b.length + 10) [needC (noNeeds (max a.length b.length))] 0 0 (max a.length b.length) _ _ _ = _
  rw [Lp12_0_succ]
  simp only [bin_int, lssI, bind_some', boolB, d0, condT, x0, pt, lenA27, needR_len]
  rw [s1, Lp12_0_succ]
  simp only [bin_int, lssI, bind_some', boolB, d1, condT, x1, pt, lenA27, needR_len]
  rw [s2, Lp12_0_succ]
  simp only [bin_int, lssI, bind_some', boolB, d2, condF]
  rw [← l2, ret_hs h12a h12b w2 c2 e2, hw2]

/- the document's -/
end Go.Sh.T

/- Gen: the laws GenTells and GenNone. -/
namespace Go.Sh.T
open Go Go.Sh Go.Proofs
set_option linter.unusedSimpArgs false
set_option linter.unusedVariables false
set_option maxRecDepth 100000

theorem few16_len {l : List Bind} (h : few16 l ≤ 60) : l.length ≤ 20 := by
  by_cases h1 : l.length ≤ 20
  · exact h1
  · exfalso
    unfold few16 at h
    rw [decide_eq_true (show (l.length : Int) > 20 by omega)] at h
    have h : (5000 : Int) ≤ 60 := h
    omega
theorem small6 (d : List Bind) (hd : d.length ≤ maxLen) (od : ∀ b ∈ d, b.Ok) (l : List Ty) (hl : l.length ≤ 1000) (ol : ∀ t ∈ l, t.Ok) (h : Heap) : ∃ c : Bool, evw E 6 [.sl 6 (d.map Bind.cells), .sl 5 (l.map Ty.cells)] h = some (.ret (.lit (.bool c)), h) ∧ (c = true → d.length ≤ 20 ∧ ∀ t ∈ l, t.much ≤ 200) := by
  have loop : ∀ (q i : Nat), i ≤ l.length → l.length < q + i → ∃ c : Bool, Lp6_0 (evw E) (l.length + 1) h q h (.sl 6 (d.map Bind.cells)) (.sl 5 (l.map Ty.cells)) (.lit (.int .i64 (i : Int))) = some (.ret (.lit (.bool c)), h) ∧ (c = true → d.length ≤ 20 ∧ ∀ (j : Nat) (t : Ty), i ≤ j → l[j]? = some t → t.much ≤ 200) := by
    intro q
    induction q with
    | zero => intro i h1 h2; omega
    | succ q ih =>
      intro i h1 h2
      rw [Lp6_0_succ]
      simp only [lenA24, bind_some', bin_int, lssI, boolB, List.length_map]
      by_cases hi : i < l.length
      · simp only [ltT hi, condT, indexA_map _ _ _ _ hi, bind_some', partA_full (Ty.cells_len _), much_spec _ _ (ol _ (List.getElem_mem hi)), onOut_ret, bin_int, gtrI, boolB, addI, incI (show i < 9223372036854775807 by omega)]
        cases hm : decide ((l[i]).much > 200) with
        | true => exact ⟨false, rfl, fun e => by cases e⟩
        | false =>
          obtain ⟨c, h3, h4⟩ := ih (i + 1) hi (by omega)
          refine ⟨c, by rw [condF]; exact h3, fun e => ⟨(h4 e).1, fun j t hj ht => ?_⟩⟩
          by_cases hji : j = i
          · rw [hji, List.getElem?_eq_getElem hi] at ht
            rw [decide_eq_false_iff_not] at hm
            rw [← Option.some.inj ht]; omega
          · exact (h4 e).2 j t (by omega) ht
      · simp only [ltF hi, condF, few16_spec d hd od, onOut_ret, bin_int, leqI, bind_some']
        refine ⟨_, rfl, fun e => ⟨few16_len (by simpa using e), fun j t hj ht => ?_⟩⟩
        have := (List.getElem?_eq_some_iff.1 ht).1; omega
  obtain ⟨c, h1, h2⟩ := loop (l.length + 1) 0 (Nat.zero_le _) (by omega)
  refine ⟨c, evw_run primsC (l.length + 1) rfl rfl rfl (by rw [nf6]; exact h1), fun e => ⟨(h2 e).1, fun t ht => ?_⟩⟩
  obtain ⟨j, hj⟩ := List.mem_iff_getElem?.1 ht
  exact (h2 e).2 j t (Nat.zero_le _) hj

/- awake -/
abbrev intA : List AV := [.lit (.int .i64 1), .lit (.int .i64 0), .lit (.string ByteArray.empty), .sl 1 [], .sl 5 []]
abbrev sealA : List AV := [.lit (.int .i64 9), .lit (.int .i64 0), .lit (.string ByteArray.empty), .sl 1 [], .sl 5 []]
abbrev fnA (x y : List AV) : List AV := [.lit (.int .i64 7), .lit (.int .i64 0), .lit (.string ByteArray.empty), .sl 1 [], .sl 5 [x, y]]
def intT : Ty := ⟨1, 0, ByteArray.empty, [], []⟩
theorem intT_cells : intT.cells = intA := by rw [Ty.cells_eq]; rfl
def sealT : Ty := ⟨9, 0, ByteArray.empty, [], []⟩
theorem sealT_cells : sealT.cells = sealA := by rw [Ty.cells_eq]; rfl
theorem w21 : evw E 21 [.lit (.int .i64 1)] [] = some (.ret (.agg intA), []) := evk 3 (by kernel_rfl)
theorem w22 : evw E 22 [.lit (.int .i64 0)] [] = some (.ret (.agg sealA), []) := evk 3 (by kernel_rfl)
theorem w9 : evw E 9 [.sl 6 [], .lit (.int .i64 1), .agg (fnA intA intA), .agg (fnA sealA sealA)] [] = some (.ret (.tup [.sl 2 [[.sl 5 [intA], .sl 5 [intA]]], .lit (.int .i64 0)]), []) := evk 60 (by kernel_rfl)
theorem w9b : evw E 9 [.sl 6 [], .lit (.int .i64 1), .agg intA, .agg (fnA sealA sealA)] [] = some (.ret (.tup [.sl 2 [], .lit (.int .i64 13)]), []) := evk 60 (by kernel_rfl)
theorem eql31 (x y : Int) : binAV E .eql 31 (.lit (.int .i64 x)) (.lit (.int .i64 y)) = some (.lit (.bool (x == y))) := by rw [bin_int, eqlI]
theorem awake8 : evw E 8 [] [] = some (.ret (.lit (.bool true)), []) := by
  have a12 : evw E 12 [.sl 2 [[.sl 5 [intA], .sl 5 [intA]]], .sl 2 [[.sl 5 [intA], .sl 5 [intA]]]] [] = some (.ret (.sl 2 [[.sl 5 [intA, intA], .sl 5 [intA, intA]]]), []) := by
    have h := add12 [([intT], [intT])] [([intT], [intT])] (by decide) (by decide) (few8_of fun p hp => by rw [List.mem_singleton.1 hp]; decide) (few8_of fun p hp => by rw [List.mem_singleton.1 hp]; decide)
    have e1 : needR [([intT], [intT])] = [[.sl 5 [intA], .sl 5 [intA]]] := by
      show [[AV.sl 5 [intT.cells], .sl 5 [intT.cells]]] = _
      rw [intT_cells]
    have e2 : needR (sumN [([intT], [intT])] [([intT], [intT])]) = [[.sl 5 [intA, intA], .sl 5 [intA, intA]]] := by
      show [[AV.sl 5 [intT.cells, intT.cells], .sl 5 [intT.cells, intT.cells]]] = _
      rw [intT_cells]
    rw [e1, e2] at h; exact h
  have c21 : evw E 21 [.lit (.int .i64 1)] [] = some (.ret (.agg intT.cells), []) := by rw [intT_cells]; exact w21
  have c22 : evw E 22 [.lit (.int .i64 0)] [] = some (.ret (.agg sealT.cells), []) := by rw [sealT_cells]; exact w22
  have c9 : evw E 9 [.sl 6 [], .lit (.int .i64 1), .agg (fnT intT intT).cells, .agg (fnT sealT sealT).cells] [] = some (.ret (.tup [.sl 2 [[.sl 5 [intA], .sl 5 [intA]]], .lit (.int .i64 0)]), []) := by
    rw [fnT_cells, fnT_cells, intT_cells, sealT_cells]; exact w9
  have c9b : evw E 9 [.sl 6 [], .lit (.int .i64 1), .agg intT.cells, .agg (fnT sealT sealT).cells] [] = some (.ret (.tup [.sl 2 [], .lit (.int .i64 13)]), []) := by
    rw [fnT_cells, intT_cells, sealT_cells]; exact w9b
  have i0 : indexA 2 (.sl 2 [[.sl 5 [intA], .sl 5 [intA]]]) (.lit (.int .i64 0)) = some [.sl 5 [intA], .sl 5 [intA]] := (Eq.refl _).trans rfl
  refine evw_run primsC 0 rfl rfl rfl ?_
  rw [nf8]
  simp only [c21, c22, onOut_ret, aggS, bind_some', Ty.cells_len, b5, condT, Ty.refold, fun23, c9, c9b, tupS, t20, t21, eql31, show ((0 : Int) == 0) = true from rfl, show ((13 : Int) == 13) = true from rfl, boolB, lenA27, List.length_singleton, bin_int, eqlE, i0, len2, show Nat.ble 0 2 = true from rfl, show Nat.ble 1 2 = true from rfl, part2a, part2b, lenA24, show ((1 : Nat) : Int) = 1 from rfl, eqd_self, a12]

/- nothing is asked -/
theorem hasU_no (n : Nat) : ∀ t : Ty, t.has 9 = false → t.hasU n = false
  | ⟨k, m, s, ls, xs⟩, h => by
    rw [Ty.has, Bool.or_eq_false_iff] at h
    rw [Ty.hasU, Bool.or_eq_false_iff]
    refine ⟨?_, hasUL_no n xs h.2⟩
    have h1 : eqd k 9 = false := eqdN (by simpa using h.1)
    rw [h1]; rfl
where hasUL_no (n : Nat) : ∀ l : List Ty, Ty.hasL 9 l = false → Ty.hasUL n l = false
  | [], _ => by rw [Ty.hasUL]
  | t :: r, h => by
    rw [Ty.hasL, Bool.or_eq_false_iff] at h
    rw [Ty.hasUL, hasU_no n t h.1, hasUL_no n r h.2]; rfl
end Go.Sh.T

/- What a row leans on. -/
namespace Go.Sh.T
open Go Go.Sh Go.Proofs
set_option linter.unusedSimpArgs false
set_option linter.unusedVariables false
theorem ty22 : E.ty 22 = some ti22 := by kernel_rfl
theorem ty45 : E.ty 45 = some ti45 := by kernel_rfl
theorem bind_of {vs : List AV} (h : TypedC E 45 vs) : ∃ s : Bind, vs = s.cells ∧ s.Ok := by
  cases h with
  | bool h hd b => rw [ty45] at h; cases h; cases hd
  | int h hd hw => rw [ty45] at h; cases h; cases hd
  | str h hd hs => rw [ty45] at h; cases h; cases hd
  | sl h hd hj hl hes => rw [ty45] at h; cases h; cases hd
  | struct h hd hf =>
    rw [ty45] at h; cases h; cases hd
    cases hf with
    | cons h1 hf =>
    cases hf with
    | cons h2 hf =>
    cases hf
    obtain ⟨x, rfl, hx⟩ := str_of h1 ty9
    obtain ⟨y, rfl, hy⟩ := ty_of h2
    exact ⟨⟨x, y⟩, by simp [Bind.cells, strC], ⟨hx, hy⟩⟩
theorem binds_ofE : ∀ {es : List (List AV)}, TypedE E 45 es → ∃ l : List Bind, es = l.map Bind.cells ∧ ∀ s ∈ l, s.Ok
  | [], _ => ⟨[], rfl, fun _ h => by cases h⟩
  | _ :: _, .cons h hr => by
    obtain ⟨s, rfl, hs⟩ := bind_of h
    obtain ⟨l, rfl, hl⟩ := binds_ofE hr
    exact ⟨s :: l, rfl, fun x hx => by
      rcases List.mem_cons.1 hx with e | e
      · rw [e]; exact hs
      · exact hl x e⟩
theorem binds_of {vs : List AV} (h : TypedC E 22 vs) : ∃ l : List Bind, vs = [.sl 6 (l.map Bind.cells)] ∧ l.length ≤ maxLen ∧ ∀ s ∈ l, s.Ok := by
  cases h with
  | bool h hd b => rw [ty22] at h; cases h; cases hd
  | int h hd hw => rw [ty22] at h; cases h; cases hd
  | str h hd hs => rw [ty22] at h; cases h; cases hd
  | struct h hd hf => rw [ty22] at h; cases h; cases hd
  | sl h hd hj hl hes =>
    rw [ty22] at h; cases h; cases hd
    rw [ty45] at hj; cases hj
    obtain ⟨l, rfl, hs⟩ := binds_ofE hes
    exact ⟨l, rfl, by simpa using hl, hs⟩
def flatTs : List Nat := [3, 4, 5, 9, 22, 23, 24, 26, 27, 40, 45]
theorem flatTs_ok : flatAll E flatTs = true := by kernel_rfl

mutual
theorem dsz_le {H : Type} : ∀ d : DataW H, dsz d ≤ Ytgcjkhmeideaoaa.Rows.uptoBulk d
  | .lit l => by cases l <;> simp [dsz, Ytgcjkhmeideaoaa.Rows.uptoBulk]
  | .nil => by simp [dsz, Ytgcjkhmeideaoaa.Rows.uptoBulk]
  | .ptr d => by simp [dsz, Ytgcjkhmeideaoaa.Rows.uptoBulk]
  | .slice e s => by have := dszL_le e; simp only [dsz, Ytgcjkhmeideaoaa.Rows.uptoBulk]; omega
  | .agg p => by have := dszL_le p; simp only [dsz, Ytgcjkhmeideaoaa.Rows.uptoBulk]; omega
  | .iface _ d => by simp [dsz, Ytgcjkhmeideaoaa.Rows.uptoBulk]
  | .map _ => by simp [dsz, Ytgcjkhmeideaoaa.Rows.uptoBulk]
  | .held _ => by simp [dsz, Ytgcjkhmeideaoaa.Rows.uptoBulk]
theorem dszL_le {H : Type} : ∀ l : List (DataW H), dszL l ≤ Ytgcjkhmeideaoaa.Rows.uptoBulkAll l
  | [] => by simp [dszL, Ytgcjkhmeideaoaa.Rows.uptoBulkAll]
  | d :: r => by have := dsz_le d; have := dszL_le r; simp only [dszL, Ytgcjkhmeideaoaa.Rows.uptoBulkAll]; omega
end
mutual
theorem Ty.pre_vol : ∀ c : Ty, c.pre.length ≤ volC c.cells
  | ⟨k, n, s, ls, xs⟩ => by
    have := Ty.preL_vol xs
    rw [Ty.pre, Ty.cells, List.length_cons]; simp only [volC, Sh.vol]; omega
theorem Ty.preL_vol : ∀ l : List Ty, (Ty.preL l).length ≤ volE (Ty.cellsL l)
  | [] => by rw [Ty.preL]; exact Nat.zero_le _
  | c :: r => by
    have h1 := Ty.pre_vol c
    have h2 := Ty.preL_vol r
    rw [Ty.preL, Ty.cellsL, List.length_append, volE]; omega
end
end Go.Sh.T
