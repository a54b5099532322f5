/- NgE: part of the proof: a shadow of the machine that is proved sound, and what the functions of this seat compute. Conditions: none. -/
import Derived.Test.YtbmgmgeliokalaaNgD
import Derived.Test.YtbmgmgeliokalaaTgC
set_option linter.unusedSimpArgs false
/- ty.Rec: fields laid, put in order, read again: its loops; what its arguments hold. -/
namespace Go.Sh.T
set_option maxRecDepth 1000000
set_option linter.unusedVariables false
set_option linter.unusedSimpArgs false
open Go Go.Sh Go.Proofs Go.Sh.Sym
theorem lenA50 (es : List (List AV)) : lenA E 50 (.sl 6 es) = some (es.length : Int) := (Eq.refl _).trans (by kernel_rfl)
theorem lenA22' (es : List (List AV)) : lenA E 22 (.sl 1 es) = some (es.length : Int) := (Eq.refl _).trans (by kernel_rfl)
theorem lenA23' (es : List (List AV)) : lenA E 23 (.sl 5 es) = some (es.length : Int) := (Eq.refl _).trans (by kernel_rfl)
namespace RC
/-- A field's type, its cells as they lie. -/
def opq (x : Fld) : List AV := [.lit x.x1, .lit x.x2, .lit x.x3, .lit x.x4, .lit x.x5]
def fe (x : Fld) : List AV := .lit (.string x.s) :: opq x
theorem partS (s : ByteArray) : partA false 1 0 (strC s) = some (.lit (.string s)) := (Eq.refl _).trans rfl
theorem oneS (s : ByteArray) : AV.one (.lit (.string s)) = true := rfl
theorem b5o (x : Fld) : Nat.beq (opq x).length 5 = true := rfl
theorem loopA (F : Nat → List AV → Heap → R) (n : Nat) (h : Heap) (fl : List Fld) (hl : fl.length ≤ maxApp) : ∀ m i : Nat, i ≤ fl.length → fl.length < m + i →
    LpA F n h m (.sl 5 (fl.map opq)) ((fl.take i).map fe) (.sl 1 (fl.map fun x => strC x.s)) (.lit (.int .i64 (fl.length : Int))) (.lit (.int .i64 (i : Int))) = some ([(4, zloc), (6, .c (.own 6 (fl.map fe)))], h)
  | 0, i, h1, h2 => by omega
  | m + 1, i, h1, h2 => by
    have hm : maxApp = 2147483648 := rfl
    rw [LpA_succ, bin_int, lssI, bind_some', boolB, bind_some']
    by_cases hi : i < fl.length
    · rw [ltT hi, condT, indexA_map _ _ _ _ hi, bind_some', partS, bind_some', indexA_map _ _ _ _ hi, bind_some', partA_full (by rfl), bind_some', oneS, condT, aggS, bind_some', b5o, condT]
      rw [show Nat.ble (((fl.take i).map fe).length + ([[AV.lit (.string fl[i].s), (opq fl[i]).getD 0 .dead, (opq fl[i]).getD 1 .dead, (opq fl[i]).getD 2 .dead, (opq fl[i]).getD 3 .dead, (opq fl[i]).getD 4 .dead]] : List (List AV)).length) maxApp = true from by
        rw [Nat.ble_eq, List.length_map, List.length_take, List.length_cons, List.length_nil]; omega]
      rw [condT, bin_int, addI, bind_some', incI (by omega)]
      rw [show ((fl.take i).map fe ++ [[AV.lit (.string fl[i].s), (opq fl[i]).getD 0 .dead, (opq fl[i]).getD 1 .dead, (opq fl[i]).getD 2 .dead, (opq fl[i]).getD 3 .dead, (opq fl[i]).getD 4 .dead]]) = (fl.take (i + 1)).map fe from by
        rw [List.take_succ_eq_append_getElem hi, List.map_append]; rfl]
      exact loopA F n h fl hl m (i + 1) hi (by omega)
    · rw [ltF hi, condF, List.take_of_length_le (by omega)]

def ge (p : ByteArray × Ty) : List AV := .lit (.string p.1) :: p.2.cells
theorem ge_len (p : ByteArray × Ty) : (ge p).length = 6 := by rw [ge, List.length_cons, Ty.cells_len p.2]
theorem ge_tail (p : ByteArray × Ty) : [(ge p).getD 1 .dead, (ge p).getD 2 .dead, (ge p).getD 3 .dead, (ge p).getD 4 .dead, (ge p).getD 5 .dead] = p.2.cells := by rw [ge, Ty.cells_eq]; rfl
def zeroC : List AV := [.lit (.int .i64 0), .lit (.int .i64 0), .lit (.string ByteArray.empty), .sl 1 [], .sl 5 []]
/-- What comes of fields in order. -/
def recQ (q : List (ByteArray × Ty)) : AV := bif risingR (q.map Prod.fst) none then .tup [.agg (Ty.cells ⟨8, 0, ByteArray.empty, q.map Prod.fst, q.map Prod.snd⟩), .lit (.bool true)] else .tup [.agg zeroC, .lit (.bool false)]
theorem loopB (h0 : Heap) (n : Nat) (h : Heap) (q : List (ByteArray × Ty)) (hl : q.length ≤ 1048576) : ∀ m i : Nat, i ≤ q.length → q.length < m + i →
    LpB (evw E) n h h0 m (.lit (.int .i64 8)) (.lit (.int .i64 0)) (.lit (.string ByteArray.empty)) (((q.take i).map Prod.fst).map strC) (((q.take i).map Prod.snd).map Ty.cells) (.sl 6 (q.map ge)) (.lit (.int .i64 (q.length : Int))) (.lit (.int .i64 (i : Int))) = some (.ret (recQ q), h)
  | 0, i, h1, h2 => by omega
  | m + 1, i, h1, h2 => by
    have hm : maxApp = 2147483648 := rfl
    have hM : maxLen = 9223372036854775807 := rfl
    rw [LpB_succ, bin_int, lssI, bind_some', boolB, bind_some']
    by_cases hi : i < q.length
    · rw [ltT hi, condT, indexA_map _ _ _ _ hi, bind_some', partA_full (ge_len _), bind_some', aggS, bind_some', show Nat.beq (ge q[i]).length 6 = true from by rw [ge_len]; rfl, condT, ge_tail, show (ge q[i]).getD 0 .dead = .lit (.string q[i].1) from rfl, oneS, condT]
      rw [show Nat.ble ((((q.take i).map Prod.fst).map strC).length + ([[AV.lit (.string q[i].1)]] : List (List AV)).length) maxApp = true from by rw [Nat.ble_eq, List.length_map, List.length_map, List.length_take, List.length_cons, List.length_nil]; omega]
      rw [show Nat.ble ((((q.take i).map Prod.snd).map Ty.cells).length + ([q[i].2.cells] : List (List AV)).length) maxApp = true from by rw [Nat.ble_eq, List.length_map, List.length_map, List.length_take, List.length_cons, List.length_nil]; omega]
      rw [condT, condT, bin_int, addI, bind_some', incI (by omega)]
      rw [show ((q.take i).map Prod.fst).map strC ++ [[AV.lit (.string q[i].1)]] = ((q.take (i + 1)).map Prod.fst).map strC from by
        rw [List.take_succ_eq_append_getElem hi, List.map_append, List.map_append]; rfl]
      rw [show ((q.take i).map Prod.snd).map Ty.cells ++ [q[i].2.cells] = ((q.take (i + 1)).map Prod.snd).map Ty.cells from by
        rw [List.take_succ_eq_append_getElem hi, List.map_append, List.map_append]; rfl]
      exact loopB h0 n h q hl m (i + 1) hi (by omega)
    · rw [ltF hi, condF, List.take_of_length_le (by omega), prising_spec _ (by rw [List.length_map]; omega), onOut_ret, notB, bind_some', boolB, bind_some']
      unfold recQ
      cases risingR (q.map Prod.fst) none with
      | true => rw [show (!true) = false from rfl, condF, condT, Ty.cells_eq]
      | false => rw [show (!false) = true from rfl, condT, condF]; rfl

/-- What arguments hold, one by one. -/
inductive Held (S : Nat → Nat) (w : World) : List Fld → List Ty → Prop
  | nil : Held S w [] []
  | cons {x : Fld} {t : Ty} {l : List Fld} {m : List Ty} (h : RepC S w [] t.cells [x.x1, x.x2, x.x3, x.x4, x.x5]) (r : Held S w l m) : Held S w (x :: l) (t :: m)
theorem Held.len {S : Nat → Nat} {w : World} {l : List Fld} {m : List Ty} (h : Held S w l m) : l.length = m.length := by
  induction h with
  | nil => rfl
  | cons h r ih => rw [List.length_cons, List.length_cons, ih]
theorem scal {S : Nat → Nat} {w : World} {a : AV} {v : Value} (h : RepA S w [] a v) (ha : (∃ x, a = .lit x) ∨ ∃ n es, a = .sl n es) : scalar v = true := by
  cases h with
  | lit h => exact h
  | slN | slE | sl => rfl
  | agg | tup | hp | ro | fn | ifc | dead => rcases ha with ⟨x, e⟩ | ⟨n, es, e⟩ <;> cases e

def Scal (l : List Fld) : Prop := ∀ x ∈ l, scalar x.x1 = true ∧ scalar x.x2 = true ∧ scalar x.x3 = true ∧ scalar x.x4 = true ∧ scalar x.x5 = true
theorem held_of {S : Nat → Nat} {w : World} : ∀ (ts : List Ty) (ls : List ByteArray) (vals : List Value), ls.length = ts.length → RepC S w [] (ts.map Ty.cells).flatten vals →
    ∃ fl : List Fld, fl.map Fld.s = ls ∧ Held S w fl ts ∧ Scal fl ∧ RepC S w [] (fl.map opq).flatten vals
  | [], [], vals, _, h => by
    refine ⟨[], rfl, .nil, fun _ h => (by cases h), ?_⟩
    exact h
  | t :: ts, s :: ls, vals, hl, h => by
    rw [List.map_cons, List.flatten_cons, Ty.cells_eq] at h
    simp only [List.cons_append, List.nil_append] at h
    cases h with
    | cons h1 o1 h =>
    cases h with
    | cons h2 o2 h =>
    cases h with
    | cons h3 o3 h =>
    cases h with
    | cons h4 o4 h =>
    cases h with
    | cons h5 o5 h =>
    obtain ⟨fl, k1, k2, k3, k4⟩ := held_of ts ls _ (by simpa using hl) h
    have c1 := scal h1 (.inl ⟨_, rfl⟩)
    have c2 := scal h2 (.inl ⟨_, rfl⟩)
    have c3 := scal h3 (.inl ⟨_, rfl⟩)
    have c4 := scal h4 (.inr ⟨_, _, rfl⟩)
    have c5 := scal h5 (.inr ⟨_, _, rfl⟩)
    refine ⟨⟨s, _, _, _, _, _, o1, o2, o3, o4, o5⟩ :: fl, by rw [List.map_cons, k1], .cons ?_ k2, ?_, ?_⟩
    · rw [Ty.cells_eq]
      exact .cons h1 o1 (.cons h2 o2 (.cons h3 o3 (.cons h4 o4 (.cons h5 o5 .nil))))
    · intro x hx
      rcases List.mem_cons.1 hx with rfl | hx
      · exact ⟨c1, c2, c3, c4, c5⟩
      · exact k3 x hx
    · rw [List.map_cons, List.flatten_cons]
      exact .cons (.lit c1) o1 (.cons (.lit c2) o2 (.cons (.lit c3) o3 (.cons (.lit c4) o4 (.cons (.lit c5) o5 k4))))
  | [], s :: ls, vals, hl, h => by simp at hl
  | t :: ts, [], vals, hl, h => by simp at hl
theorem flat5 : ∀ l : List Fld, (l.map opq).flatten.length = l.length * 5
  | [] => rfl
  | x :: l => by rw [List.map_cons, List.flatten_cons, List.length_append, flat5 l, List.length_cons]; show 5 + _ = _; omega
theorem flatT : ∀ l : List Ty, (l.map Ty.cells).flatten.length = l.length * 5
  | [] => rfl
  | x :: l => by rw [List.map_cons, List.flatten_cons, List.length_append, flatT l, List.length_cons, Ty.cells_len x]; omega
/-- The arguments, held by their cells as they lie. -/
theorem held_args {S : Nat → Nat} {w : World} {ls : List ByteArray} {ts : List Ty} (hl : ls.length = ts.length) {argv : List Value} (h : RepL S w [] [.sl 1 (ls.map strC), .sl 5 (ts.map Ty.cells)] argv) :
    ∃ fl : List Fld, fl.map Fld.s = ls ∧ Held S w fl ts ∧ Scal fl ∧ RepL S w [] [.sl 1 (fl.map fun x => strC x.s), .sl 5 (fl.map opq)] argv := by
  cases h with
  | cons h1 h =>
  cases h with
  | cons h2 h =>
  cases h with
  | nil =>
  have key : ∀ fl : List Fld, fl.map Fld.s = ls → (fl.map fun x => strC x.s) = ls.map strC := fun fl e => by rw [← e, List.map_map]; rfl
  have nilc : ts = [] → ls = [] := fun e => by rw [e] at hl; exact List.eq_nil_of_length_eq_zero hl
  generalize hT : ts.map Ty.cells = T at h2
  cases h2 with
  | slN =>
    have : ts = [] := by cases ts with | nil => rfl | cons _ _ => cases hT
    subst this
    have := nilc rfl; subst this
    exact ⟨[], rfl, .nil, fun _ h => (by cases h), .cons h1 (.cons (.slN 5) .nil)⟩
  | slE _ a =>
    have : ts = [] := by cases ts with | nil => rfl | cons _ _ => cases hT
    subst this
    have := nilc rfl; subst this
    exact ⟨[], rfl, .nil, fun _ h => (by cases h), .cons h1 (.cons (.slE 5 a) .nil)⟩
  | sl hc hr hv hs hn =>
    subst hT
    obtain ⟨fl, k1, k2, k3, k4⟩ := held_of ts ls _ hl hv
    have hle : fl.length = ts.length := k2.len
    refine ⟨fl, k1, k2, k3, .cons (by rw [key fl k1]; exact h1) (.cons ?_ .nil)⟩
    have e1 : (fl.map opq).length = (ts.map Ty.cells).length := by rw [List.length_map, List.length_map, hle]
    have e2 : (fl.map opq).flatten.length = (ts.map Ty.cells).flatten.length := by rw [flat5, flatT, hle]
    rw [← e1]
    exact .sl (by rw [e1]; exact hc) (by rw [e2]; exact hr) k4 (by rw [e2]; exact hs) (fun e he => by obtain ⟨x, _, rfl⟩ := List.mem_map.1 he; rfl)

/-- In another order. -/
theorem Held.perm {S : Nat → Nat} {w : World} {l l' : List Fld} (hp : l.Perm l') : ∀ {m : List Ty}, Held S w l m → ∃ q : List (ByteArray × Ty), q.Perm ((l.map Fld.s).zip m) ∧ q.map Prod.fst = l'.map Fld.s ∧ Held S w l' (q.map Prod.snd) := by
  induction hp with
  | nil =>
    intro m h
    cases h
    exact ⟨[], .refl _, rfl, .nil⟩
  | cons x p ih =>
    intro m h
    cases h with
    | @cons _ tt _ _ h r =>
    obtain ⟨q, k1, k2, k3⟩ := ih r
    refine ⟨(x.s, tt) :: q, ?_, by rw [List.map_cons, List.map_cons, k2], ?_⟩
    · rw [List.map_cons, List.zip_cons_cons]; exact k1.cons _
    · rw [List.map_cons]; exact .cons h k3
  | swap x y l =>
    intro m h
    cases h with
    | @cons _ t1 _ _ h r =>
    cases r with
    | @cons _ t _ m2 h2 r =>
    refine ⟨(x.s, t) :: (y.s, t1) :: (l.map Fld.s).zip m2, ?_, ?_, ?_⟩
    · rw [List.map_cons, List.map_cons, List.zip_cons_cons, List.zip_cons_cons]; exact .swap _ _ _
    · have hl := r.len
      rw [List.map_cons, List.map_cons, List.map_cons, List.map_cons, List.map_fst_zip (by rw [List.length_map]; omega)]
    · have hl := r.len
      rw [List.map_cons, List.map_cons, List.map_snd_zip (by rw [List.length_map]; omega)]
      exact .cons h2 (.cons h r)
  | trans p1 p2 ih1 ih2 =>
    intro m h
    obtain ⟨q, k1, k2, k3⟩ := ih1 h
    obtain ⟨q', j1, j2, j3⟩ := ih2 k3
    refine ⟨q', j1.trans ?_, j2, j3⟩
    rw [← k2]
    have : (q.map Prod.fst).zip (q.map Prod.snd) = q := by
      clear k1 k2 k3 j1 j2 j3
      induction q with
      | nil => rfl
      | cons a q ih => rw [List.map_cons, List.map_cons, List.zip_cons_cons, ih]
    rw [this]; exact k1
end RC
end Go.Sh.T

/- ty.Rec as one step: fields put in order by the stable sort; its answer. -/
namespace Go.Sh.T
set_option maxRecDepth 1000000
set_option linter.unusedVariables false
set_option linter.unusedSimpArgs false
open Go Go.Sh Go.Proofs Go.Sh.Sym Go.Shelf Go.RowKit Go.Lib Go.Sort
namespace RC
theorem cmp_lt : ∀ a b : List UInt8, decide (compareBytes a b < 0) = ltStr a b
  | [], [] => rfl
  | [], _ :: _ => by simp [compareBytes, ltStr]
  | _ :: _, [] => by simp [compareBytes, ltStr]
  | a :: l, b :: m => by
    have ih := cmp_lt l m
    unfold ltStr at ih ⊢
    rw [compareBytes]
    by_cases h : a < b
    · rw [if_pos h]
      have h1 : a :: l < b :: m := List.cons_lt_cons_iff.2 (.inl h)
      rw [decide_eq_true h1]; rfl
    · rw [if_neg h]
      by_cases h2 : b < a
      · rw [if_pos h2]
        have h1 : ¬ (a :: l < b :: m) := fun h3 => by
          rcases List.cons_lt_cons_iff.1 h3 with h3 | ⟨h3, _⟩
          · exact h h3
          · subst h3; exact h h2
        rw [decide_eq_false h1]; rfl
      · rw [if_neg h2, ih]
        have e : a = b := UInt8.le_antisymm (UInt8.not_lt.1 h2) (UInt8.not_lt.1 h)
        subst e
        congr 1
        exact propext ⟨fun h3 => List.cons_lt_cons_iff.2 (.inr ⟨rfl, h3⟩), fun h3 => by
          rcases List.cons_lt_cons_iff.1 h3 with h3 | ⟨_, h3⟩
          · exact absurd h3 h
          · exact h3⟩
def keyL (s : ByteArray) : List UInt8 := s.data.toList
theorem ltOf_cf (x y : Fld) : ltOf cf x y = ltStr (keyL x.s) (keyL y.s) := by unfold ltOf cf keyL; rw [cmp_lt]
theorem swo : SWO (ltOf cf) where
  irrefl x := by rw [ltOf_cf]; exact swo_ltStr.irrefl _
  trans x y z h1 h2 := by rw [ltOf_cf] at *; exact swo_ltStr.trans _ _ _ h1 h2
  ntrans x y z h1 h2 := by rw [ltOf_cf] at *; exact swo_ltStr.ntrans _ _ _ h1 h2
theorem cmpL (blk off size : Nat) (w : World) : CmpLays Try.prog 45 #[] enc 6 cf blk off size w := fun m os dk hd x y => by
  refine (cmp45 x.s y.s x.x1 x.x2 x.x3 x.x4 x.x5 y.x1 y.x2 y.x3 y.x4 y.x5 (sortWorldK enc 6 w blk off m dk os)).mono ?_
  rintro e w' ⟨rfl, os', rfl⟩
  exact ⟨rfl, 0, os', rfl⟩
theorem eg45 : ∀ args w, (callFunc 45 args).run Try.prog w = .ok (.enter 45 args) w := enters_of Try.func45 (by kernel_rfl) rfl
theorem sort_some {w : World} {bo cap : Nat} {arr : Array Value} {T : TypeId} {fl : List Fld} (hw : w.heap[bo]? = some (.cells arr T (0, 0))) (h : arr.toList.take (fl.length * 6) = flatF fl) (hl : fl.length < 1152921504606846976) :
    Calls Try.prog 44 #[.slice (some ⟨bo, 0, none⟩) fl.length cap, .func (.func 45) #[] #[]] w fun e w' => e = .returned (.tuple #[]) ∧ ∃ d' : Array Fld, SW 6 w bo 0 d' w' ∧ fl.Perm d'.toList ∧ SortedIn (ltOf cf) 0 fl.length d' := by
  have R : Rw 6 w bo 0 fl.toArray := ⟨enc_len, enc_one, holds_of hw h, lt_of_heap hw⟩
  have hs : fl.toArray.size = fl.length := by simp
  have q := sortStable (cap := cap) (k := 6) lay swo (cmpL bo 0 fl.toArray.size w) eg45 R (by rw [hs]; exact hl)
  rw [hs] at q
  refine q.mono ?_
  rintro e w' ⟨rfl, d', h1, h2, h3⟩
  refine ⟨rfl, d', h1, ?_, h3⟩
  have h4 := h2.2.2
  have e1 : (d'.extract 0 fl.length).toList = d'.toList := by
    have : d'.size = fl.length := by rw [h2.1, hs]
    rw [← this]; simp
  have e2 : (fl.toArray.extract 0 fl.length).toList = fl := by simp
  rw [e1, e2] at h4
  exact h4.symm
set_option maxHeartbeats 1000000 in
theorem ins_nil (w : World) (v : Value) : Calls Try.prog 75 #[.slice none 0 0, .int .i64 0, .int .i64 0, v] w fun e w' => e = .returned (.tuple #[]) ∧ w' = w := by
  go_enter Try.func75, Try.ntmps75
  go_wp2
  refine wp_loop_rounds 1 ?_
  rw [rounds_succ]
  go_wp2
  go_end0
  exact ⟨rfl, rfl⟩
set_option maxHeartbeats 1000000 in
theorem stable_nil (w : World) (v : Value) : Calls Try.prog 57 #[.slice none 0 0, .int .i64 0, v] w fun e w' => e = .returned (.tuple #[]) ∧ w' = w := by
  have e75 : ∀ args w, (callFunc 75 args).run Try.prog w = .ok (.enter 75 args) w := enters_of Try.func75 (by kernel_rfl) rfl
  go_enter Try.func57, Try.ntmps57
  go_wp2
  refine wp_loop_rounds 1 ?_
  rw [rounds_succ]
  go_wp2_with (go_at_fn 75; refine (ins_nil _ _).mono ?_; rintro e' w1 ⟨rfl, rfl⟩)
  refine wp_loop_rounds 1 ?_
  rw [rounds_succ]
  go_wp2
  go_end0
  exact ⟨rfl, rfl⟩
set_option maxHeartbeats 1000000 in
theorem sort_nil (w : World) (v : Value) : Calls Try.prog 44 #[.slice none 0 0, v] w fun e w' => e = .returned (.tuple #[]) ∧ w' = w := by
  have e57 : ∀ args w, (callFunc 57 args).run Try.prog w = .ok (.enter 57 args) w := enters_of Try.func57 (by kernel_rfl) rfl
  go_enter Try.func44, Try.ntmps44
  go_wp2_with (go_at_fn 57; refine (stable_nil _ _).mono ?_; rintro e' w1 ⟨rfl, rfl⟩)
  go_end0
  exact ⟨rfl, rfl⟩
end RC
end Go.Sh.T

/- ty.Rec as one step: memory before the sort, and behind it. -/
namespace Go.Sh.T
set_option maxRecDepth 1000000
set_option linter.unusedVariables false
set_option linter.unusedSimpArgs false
open Go Go.Sh Go.Proofs Go.Sh.Sym Go.Shelf Go.RowKit Go.Lib Go.Sort
namespace RC
section
variable {S : Nat → Nat} {w0 w1 w2 : World} {G : Gh} {fl : List Fld} {tmps : Array Value}
abbrev Gz (S : Nat → Nat) : Gh := ⟨S, fun _ => .none, []⟩
theorem old_o {b : Nat} (f : Fr 0 (Gz S) w0 G w1) (hb : b < w0.heap.size) : w1.heap[b]? = w0.heap[b]? ∧ G.S b = S b ∧ G.O b = .none := f.same b hb rfl
theorem repC_lit : ∀ {l : List Fld} {vals : List Value}, RepC G.S w1 G.μ (l.map fe).flatten vals → vals = flatF l
  | [], vals, h => by cases h; rfl
  | x :: l, vals, h => by
    rw [List.map_cons, List.flatten_cons] at h
    simp only [fe, opq, List.cons_append, List.nil_append] at h
    cases h with
    | cons h1 _ h =>
    cases h with
    | cons h2 _ h =>
    cases h with
    | cons h3 _ h =>
    cases h with
    | cons h4 _ h =>
    cases h with
    | cons h5 _ h =>
    cases h with
    | cons h6 _ h =>
    have ih := repC_lit h
    cases h1; cases h2; cases h3; cases h4; cases h5; cases h6
    rw [ih, flatF, flatF, List.flatMap_cons]; rfl
theorem flat6 : ∀ l : List Fld, (l.map fe).flatten.length = l.length * 6
  | [] => rfl
  | x :: l => by rw [List.map_cons, List.flatten_cons, List.length_append, flat6 l, List.length_cons]; show 6 + _ = _; omega
/-- What is read behind the sort. -/
theorem repQ : ∀ {l : List Fld} {q : List (ByteArray × Ty)}, q.map Prod.fst = l.map Fld.s → Held S w0 l (q.map Prod.snd) → RepC S w0 [] (q.map ge).flatten (flatF l)
  | [], [], _, _ => .nil
  | x :: l, p :: q, h1, h2 => by
    rw [List.map_cons, List.map_cons] at h1
    rw [List.map_cons] at h2
    cases h2 with
    | cons h r =>
    have e1 : p.1 = x.s := (List.cons.inj h1).1
    have ih := repQ (List.cons.inj h1).2 r
    rw [List.map_cons, List.flatten_cons, flatF, List.flatMap_cons]
    refine RepC.append ?_ ih
    show RepC _ _ _ (.lit (.string p.1) :: p.2.cells) (.string x.s :: [x.x1, x.x2, x.x3, x.x4, x.x5])
    rw [e1]
    exact .cons (.lit rfl) rfl h
  | [], p :: q, h1, _ => by cases h1
  | x :: l, [], h1, _ => by cases h1
theorem flatG (q : List (ByteArray × Ty)) : (q.map ge).flatten.length = q.length * 6 := by
  induction q with
  | nil => rfl
  | cons p q ih => rw [List.map_cons, List.flatten_cons, List.length_append, ih, ge_len, List.length_cons]; omega

theorem after_sort (f : Fr 0 (Gz S) w0 G w1) (hS : Within (Gz S) w0) (r : RepSt 0 G w1 { s := lkS [(4, zloc), (6, .c (.own 6 (fl.map fe)))], h := [] } tmps) {bo cap : Nat} {arr : Array Value} {T : TypeId}
    (ho : G.O bo = .sl 0 6) (hb : w1.heap[bo]? = some (.cells arr T (0, 0))) (hS1 : G.S bo = fl.length * 6) (hcap : fl.length ≤ cap) (hx : tmps.getD 6 undef = .slice (some ⟨bo, 0, none⟩) fl.length cap) (hsz : fl.length * 6 ≤ arr.size)
    {d' : Array Fld} (hsw : SW 6 w1 bo 0 d' w2) (hp : fl.Perm d'.toList) {q : List (ByteArray × Ty)} (hq1 : q.map Prod.fst = d'.toList.map Fld.s) (hq2 : Held S w0 d'.toList (q.map Prod.snd))
    {tmps' : Array Value} (h4 : tmps'.getD 4 undef = tmps.getD 4 undef) (h6 : tmps'.getD 6 undef = tmps.getD 6 undef) :
    RepSt 0 G w2 { s := lkS [(4, zloc), (6, .c (.v (.sl 6 (q.map ge))))], h := [] } tmps' ∧ Fr 0 (Gz S) w0 G w2 := by
  have hbo : w0.heap.size ≤ bo := by
    rcases Nat.lt_or_ge bo w0.heap.size with hb' | hb'
    · have := (old_o f hb').2.2; rw [ho] at this; cases this
    · exact hb'
  have hds : d'.size = fl.length := by have := hp.length_eq; simpa using this.symm
  have hql : q.length = fl.length := by have := congrArg List.length hq1; rw [List.length_map, List.length_map] at this; rw [this]; simpa using hds
  have hlt : bo < w1.heap.size := lt_of_heap hb
  obtain ⟨arr', k1, k2, k3⟩ := heap_row hsw hlt hb (by rw [hds]; exact hsz)
  have oth : ∀ b, b < w1.heap.size → b ≠ bo → w2.heap[b]? = w1.heap[b]? := fun b h1 h2 => heap_other hsw h1 h2
  have hext0 : Ext S w0 [] G.S w2 G.μ := by
    refine ⟨f.ext.le, fun b o m vals hs hr => ?_, fun i b h => (by simp at h)⟩
    have hb0 : b < w0.heap.size := by
      refine Nat.lt_of_not_le fun hc => ?_
      unfold row? at hr
      rw [Array.getElem?_eq_none (by omega)] at hr
      cases hr
    rw [row_of_same ((oth b (Nat.lt_of_lt_of_le hb0 f.size) (by omega)).trans (old_o f hb0).1)]
    exact hr
  have hμ : G.μ = [] := List.eq_nil_of_length_eq_zero r.heap.1
  obtain ⟨o1, o2, o3⟩ := sort_rest hsw
  have hwin : Within G w2 := fun b hb' => by
    obtain ⟨arr2, T2, fz, m1, m2⟩ := r.within b hb'
    by_cases e : b = bo
    · subst e
      exact ⟨arr', T, (0, 0), k1, by rw [k2, hS1]; exact hsz⟩
    · exact ⟨arr2, T2, fz, (oth b (lt_of_heap m1) e).trans m1, m2⟩
  have hfr : Fr 0 (Gz S) w0 G w2 := by
    refine ⟨o1.trans f.os, o2.trans f.tape, o3.trans f.output, Nat.le_trans f.size hsw.le, hext0, fun b hb' hq => ?_⟩
    obtain ⟨m1, m2, m3⟩ := old_o f hb'
    exact ⟨(oth b (Nat.lt_of_lt_of_le hb' f.size) (by omega)).trans m1, m2, m3⟩
  refine ⟨⟨fun i => ?_, fun u t off hu => ?_, ⟨by rw [hμ]; rfl, fun i cs h => (by simp at h)⟩, hwin⟩, hfr⟩
  · by_cases e4 : i = 4
    · subst e4
      rw [h4]
      have s4 := r.slot 4
      obtain ⟨b4, arr4, T4, j1, j2, j3, j4, j5⟩ := s4
      have hne : b4 ≠ bo := fun e => by rw [e, ho] at j2; cases j2
      refine ⟨b4, arr4, T4, j1, j2, (oth b4 (lt_of_heap j3) hne).trans j3, j4, j5.1, fun i c hc => ?_⟩
      obtain ⟨x, g1, g2, g3⟩ := j5.2 i c hc
      refine ⟨x, g1, ?_, g3⟩
      have own0 : ∀ n, RepCell G w1 (.sc 0 4 i) (.own n []) x → RepCell G w2 (.sc 0 4 i) (.own n []) x := fun n hc2 => by
        rcases hc2 with hc2 | ⟨b, cp, ar, TT, p1, p2, p3, p4, p5, p6, p7, p8⟩
        · exact .inl hc2
        · have hne2 : b ≠ bo := fun e => by rw [e, ho] at p2; cases p2
          exact .inr ⟨b, cp, ar, TT, p1, p2, (oth b (lt_of_heap p3) hne2).trans p3, p4, p5, p6, .nil, p8⟩
      have lit0 : ∀ v, RepCell G w1 (.sc 0 4 i) (.v (.lit v)) x → RepCell G w2 (.sc 0 4 i) (.v (.lit v)) x := fun v hc2 => by
        have hc2 : RepA G.S w1 G.μ (.lit v) x := hc2
        cases hc2 with
        | lit hs => exact RepA.lit hs
      rcases i with _ | _ | _ | _ | _ | i
      · cases hc; exact lit0 _ g2
      · cases hc; exact lit0 _ g2
      · cases hc; exact lit0 _ g2
      · cases hc; exact own0 _ g2
      · cases hc; exact own0 _ g2
      · simp at hc
    · by_cases e6 : i = 6
      · subst e6
        rw [h6, hx]
        show RepA G.S w2 G.μ (.sl 6 (q.map ge)) _
        have e1 : (q.map ge).length = fl.length := by rw [List.length_map, hql]
        rw [← e1]
        have e2 : (q.map ge).flatten.length = d'.size * 6 := by rw [flatG, hql, hds]
        refine .sl (vals := flatF d'.toList) (by rw [e1]; exact hcap) ?_ (RepC.mono (by rw [hμ] at hext0 ⊢; exact hext0) (repQ hq1 hq2)) (by rw [e2, hS1, hds]; omega) (fun e he => by obtain ⟨p, _, rfl⟩ := List.mem_map.1 he; exact ge_len p)
        unfold row?
        rw [k1, e2]
        show (if 0 + d'.size * 6 ≤ arr'.size then _ else _) = _
        rw [if_pos (by rw [k2, hds]; omega), List.drop_zero, k3]
      · have : lkS [(4, zloc), (6, Slot.c (.v (.sl 6 (q.map ge))))] i = .dead := by
          show (bif Nat.beq 4 i then _ else bif Nat.beq 6 i then _ else _) = _
          have n4 : Nat.beq 4 i = false := by cases h : Nat.beq 4 i with | false => rfl | true => exact absurd (Nat.eq_of_beq_eq_true h).symm e4
          have n6 : Nat.beq 6 i = false := by cases h : Nat.beq 6 i with | false => rfl | true => exact absurd (Nat.eq_of_beq_eq_true h).symm e6
          rw [n4, n6]; rfl
        show RepSlot _ _ _ _ (lkS _ i) _
        rw [this]; trivial
  · exfalso
    have hu : lkS [(4, zloc), (6, Slot.c (.v (.sl 6 (q.map ge))))] u = .path t off := hu
    rcases lkS_spec [(4, zloc), (6, Slot.c (.v (.sl 6 (q.map ge))))] u with e | e
    · rw [e] at hu; cases hu
    · rw [hu] at e; simp at e
end

/-- In order, of the same pairs. -/
def Sorted (q : List (ByteArray × Ty)) : Prop := q.Pairwise fun a b => ltStr (keyL b.1) (keyL a.1) = false
/-- One call of the sort. -/
theorem sort_step {a : Act} {w : World} {x : Value} (hsz : a.tmps.size = nt) (hx : a.tmps.getD 6 undef = x) {R : Ending → World → Prop} (hc : Calls Try.prog 44 #[x, .func (.func 45) #[] #[]] w R) {Q : Exit → Act → World → Prop}
    (hQ : ∀ e w', R e w' → e = .returned (.tuple #[]) ∧ Q .normal ((a.put (some 35) x).put (some 36) (.tuple #[])) w') : SR.wpIn (FF none) 0 Try.prog Q a w := by
  have cal : Callable Try.prog 44 := callable Try.func44 (by kernel_rfl) rfl
  change (Code.region _ (SET.opsOf SR) false).wpIn _ _ _ _ _ _
  refine wpIn_region ?_
  rw [show (SET.opsOf SR).size = 2 from rfl, show List.range 2 = [0, 1] from rfl, wpOpsIn_cons]
  refine step_pureX (i := 0) (o := (SET.opsOf SR).getD 0 default) rfl rfl (fun c hc => by cases hc) (v := x) (by
    have : ((SET.opsOf SR).getD 0 default).op = .move (.tmp 6) := rfl
    unfold execOp; rw [this]; simp only [SET.eval_tmp, hx]; rfl) ?_
  rw [show ((SET.opsOf SR).getD 0 default).dst = some 35 from rfl, wpOpsIn_cons]
  refine step_callX (i := 1) (o := (SET.opsOf SR).getD 1 default) (c := ⟨.value (.func 44), #[.tmp 35, .func 45], #[50, 54]⟩) rfl rfl rfl rfl cal (R := R) ?_ ?_
  · have e : (#[Operand.tmp 35, .func 45] : Array Operand).map (a.put (some 35) x).eval = #[x, .func (.func 45) #[] #[]] := by
      have e1 : (a.put (some 35) x).eval (.tmp 35) = x := by rw [SET.eval_tmp, SET.put_get _ _ _ (by rw [hsz]; decide)]
      rw [List.map_toArray, List.map_cons, List.map_cons, List.map_nil, e1]; rfl
    show Calls _ _ ((#[Operand.tmp 35, .func 45] : Array Operand).map _) _ _
    rw [e]; exact hc
  · intro e w' hr
    obtain ⟨rfl, hq⟩ := hQ e w' hr
    exact ⟨_, rfl, hq⟩
end RC
end Go.Sh.T

/- ty.Rec as one step. -/
namespace Go.Sh.T
set_option maxRecDepth 1000000
set_option linter.unusedVariables false
set_option linter.unusedSimpArgs false
open Go Go.Sh Go.Proofs Go.Sh.Sym Go.Shelf Go.RowKit Go.Lib Go.Sort
namespace RC
/-- In order, of the same: the same. -/
theorem sorted_uniq {α : Type} {lt : α → α → Bool} : ∀ {l m : List α}, l.Perm m → l.Pairwise (fun a b => lt b a = false) → m.Pairwise (fun a b => lt b a = false) → (∀ x ∈ l, ∀ y ∈ l, lt x y = false → lt y x = false → x = y) → l = m
  | [], m, hp, _, _, _ => (List.nil_perm.1 hp).symm
  | a :: l, [], hp, _, _, _ => absurd hp.length_eq (by simp)
  | a :: l, b :: m, hp, h1, h2, h => by
    have e : a = b := by
      have ha : a ∈ b :: m := hp.subset List.mem_cons_self
      have hb : b ∈ a :: l := hp.symm.subset List.mem_cons_self
      rcases List.mem_cons.1 ha with e | ha
      · exact e
      · rcases List.mem_cons.1 hb with e | hb'
        · exact e.symm
        · exact h a List.mem_cons_self b hb ((List.pairwise_cons.1 h2).1 a ha) ((List.pairwise_cons.1 h1).1 b hb')
    subst e
    rw [sorted_uniq (List.Perm.cons_inv hp) (List.pairwise_cons.1 h1).2 (List.pairwise_cons.1 h2).2 fun x hx y hy => h x (List.mem_cons_of_mem _ hx) y (List.mem_cons_of_mem _ hy)]
theorem key_inj {x y : ByteArray} (h : keyL x = keyL y) : x = y := by
  unfold keyL at h
  cases x; cases y
  congr 1
  exact Array.toList_inj.1 h
theorem key_anti {x y : ByteArray} (h1 : ltStr (keyL x) (keyL y) = false) (h2 : ltStr (keyL y) (keyL x) = false) : x = y := by
  simp only [ltStr, decide_eq_false_iff_not, List.not_lt] at h1 h2
  exact key_inj (List.le_antisymm h2 h1)
theorem strLt_key (x y : ByteArray) : strLt x y = ltStr (keyL x) (keyL y) := by
  unfold strLt ltStr keyL
  rw [bytesLess_eq]
  have e : ∀ z : ByteArray, z.toList = z.data.toList := fun z => toList_data z
  rw [e, e]
theorem rising_lt : ∀ {l : List ByteArray} {p : Option ByteArray}, risingR l p = true → (∀ q, p = some q → ∀ x ∈ l, ltStr (keyL q) (keyL x) = true) ∧ l.Pairwise (fun a b => ltStr (keyL a) (keyL b) = true)
  | [], p, _ => ⟨fun _ _ _ h => (by cases h), List.Pairwise.nil⟩
  | s :: r, p, h => by
    rw [risingR, Bool.and_eq_true, Bool.and_eq_true] at h
    obtain ⟨⟨_, hg⟩, hr⟩ := h
    obtain ⟨i1, i2⟩ := rising_lt hr
    refine ⟨fun q hq x hx => ?_, List.pairwise_cons.2 ⟨fun y hy => i1 s rfl y hy, i2⟩⟩
    subst hq
    have g : strLt q s = true := hg
    rw [strLt_key] at g
    rcases List.mem_cons.1 hx with e | hx
    · rw [e]; exact g
    · exact swo_ltStr.trans _ _ _ g (i1 s rfl x hx)
/-- The same keys apart. -/
theorem key_one {q : List (ByteArray × Ty)} (h : (q.map Prod.fst).Pairwise (fun a b => ltStr (keyL a) (keyL b) = true)) : ∀ x ∈ q, ∀ y ∈ q, x.1 = y.1 → x = y := by
  induction q with
  | nil => intro x hx; cases hx
  | cons a q ih =>
    rw [List.map_cons, List.pairwise_cons] at h
    have ne : ∀ y ∈ q, a.1 ≠ y.1 := fun y hy e => by
      have := h.1 y.1 (List.mem_map.2 ⟨y, hy, rfl⟩)
      rw [e, swo_ltStr.irrefl] at this; cases this
    intro x hx y hy e
    rcases List.mem_cons.1 hx with hx' | hx'
    · rcases List.mem_cons.1 hy with hy' | hy'
      · rw [hx', hy']
      · rw [hx'] at e; exact absurd e (ne y hy')
    · rcases List.mem_cons.1 hy with hy' | hy'
      · rw [hy'] at e; exact absurd e.symm (ne x hx')
      · exact ih h.2 x hx' y hy' e
theorem rec_uniq {q c : List (ByteArray × Ty)} (hp : q.Perm c) (h1 : Sorted q) (h2 : Sorted c) : recQ q = recQ c := by
  have hl : q.map Prod.fst = c.map Prod.fst := sorted_uniq (lt := fun a b => ltStr (keyL a) (keyL b)) (hp.map _) (List.pairwise_map.2 h1) (List.pairwise_map.2 h2) fun x _ y _ a b => key_anti a b
  cases hr : risingR (q.map Prod.fst) none with
  | false => unfold recQ; rw [← hl, hr, cond_false, cond_false]
  | true =>
    have hk := key_one (rising_lt hr).2
    have : q = c := sorted_uniq (lt := fun a b : ByteArray × Ty => ltStr (keyL a.1) (keyL b.1)) hp h1 h2 fun x hx y hy a b => hk x hx y hy (key_anti a b)
    rw [this]
/-- Laid into its place. -/
def insQ (p : ByteArray × Ty) : List (ByteArray × Ty) → List (ByteArray × Ty)
  | [] => [p]
  | x :: r => bif strLt x.1 p.1 then x :: insQ p r else p :: x :: r
def sortQ (l : List (ByteArray × Ty)) : List (ByteArray × Ty) := l.foldr insQ []
theorem insQ_perm (p : ByteArray × Ty) : ∀ l, (insQ p l).Perm (p :: l)
  | [] => .refl _
  | x :: r => by
    rw [insQ]
    cases strLt x.1 p.1 with
    | true => rw [cond_true]; exact ((insQ_perm p r).cons x).trans (.swap _ _ _)
    | false => rw [cond_false]
theorem insQ_sorted (p : ByteArray × Ty) : ∀ l, Sorted l → Sorted (insQ p l)
  | [], _ => List.pairwise_singleton _ _
  | x :: r, h => by
    obtain ⟨h1, h2⟩ := List.pairwise_cons.1 h
    rw [insQ]
    cases hc : strLt x.1 p.1 with
    | true =>
      rw [cond_true]
      rw [strLt_key] at hc
      refine List.pairwise_cons.2 ⟨fun y hy => ?_, insQ_sorted p r h2⟩
      rcases List.mem_cons.1 ((insQ_perm p r).subset hy) with rfl | hy
      · exact swo_ltStr.asymm hc
      · exact h1 y hy
    | false =>
      rw [cond_false]
      rw [strLt_key] at hc
      refine List.pairwise_cons.2 ⟨fun y hy => ?_, h⟩
      rcases List.mem_cons.1 hy with rfl | hy
      · exact hc
      · exact swo_ltStr.ntrans _ _ _ (h1 y hy) hc
theorem sortQ_ok : ∀ l, (sortQ l).Perm l ∧ Sorted (sortQ l)
  | [] => ⟨.refl _, .nil⟩
  | p :: l => by
    obtain ⟨h1, h2⟩ := sortQ_ok l
    exact ⟨(insQ_perm p _).trans (h1.cons p), insQ_sorted p _ h2⟩
/-- ty.Rec. -/
def recA (ls : List ByteArray) (ts : List Ty) : AV := bif decide (ls.length = ts.length) then recQ (sortQ (ls.zip ts)) else .tup [.agg zeroC, .lit (.bool false)]
theorem sorted_of {fl : List Fld} {d' : Array Fld} (hp : fl.Perm d'.toList) (hs : SortedIn (ltOf cf) 0 fl.length d') {q : List (ByteArray × Ty)} (hq : q.map Prod.fst = d'.toList.map Fld.s) : Sorted q := by
  have hd : d'.toList.length = fl.length := hp.length_eq.symm
  have h1 : (d'.toList.map Fld.s).Pairwise (fun a b => ltStr (keyL b) (keyL a) = false) := by
    rw [List.pairwise_map, List.pairwise_iff_getElem]
    intro i j hi hj hij
    have := hs i j (Nat.zero_le _) hij (by omega)
    rw [ltOf_cf, getElem!_pos d' i (by simpa using hi), getElem!_pos d' j (by simpa using hj)] at this
    simpa using this
  rw [← hq, List.pairwise_map] at h1
  exact h1

theorem recQ_lt (q : List (ByteArray × Ty)) : AV.lt 0 (recQ q) := by
  unfold recQ
  cases risingR (q.map Prod.fst) none with
  | true =>
    rw [cond_true]
    refine .tup fun a ha => ?_
    rcases List.mem_cons.1 ha with rfl | ha
    · exact .agg (ltL_ok (Ty.ltL 0 _))
    · rw [List.mem_singleton.1 ha]; exact .lit _
  | false => rw [cond_false]; exact ltA_ok (by rfl)
theorem recA_lt (ls : List ByteArray) (ts : List Ty) : AV.lt 0 (recA ls ts) := by
  unfold recA
  cases decide (ls.length = ts.length) with
  | true => exact recQ_lt _
  | false => rw [cond_false]; exact ltA_ok (by rfl)
theorem lone_of {S : Nat → Nat} {w w' : World} {e : Ending} {out : AV} (ho : AV.lt 0 out) (h : EndOk 0 (Gz S) w (.ret out) [] e w') : LoneEndS S w out e w' := by
  obtain ⟨G', f, hh, hw, hv⟩ := h
  cases e with
  | returned v =>
    have hv : RepA G'.S w' G'.μ out v := hv
    refine ⟨v, rfl, f.os, f.tape, f.output, f.size, fun b hb => (old_o f hb).1, RepA.free (fun b => ?_) hv ho⟩
    unfold freshS
    split
    · rename_i hb; exact Nat.le_of_eq (old_o f hb).2.1
    · exact within_le hw b
  | panicked c => exact hv.elim
  | _ => exact hv.elim
theorem neI (x y : Nat) : ((x : Int) != (y : Int)) = !decide (x = y) := by
  by_cases h : x = y
  · subst h; simp
  · rw [decide_eq_false h, bne_iff_ne.2 (by omega)]; rfl

theorem ends25 (ls : List ByteArray) (ts : List Ty) (hm : ls.length ≤ 1048576) (hh : Heap) : Ends Try.prog 25 [.sl 1 (ls.map strC), .sl 5 (ts.map Ty.cells)] hh (.ret (recA ls ts)) hh := by
  have cal : Callable Try.prog 25 := callable Try.func25 (by kernel_rfl) rfl
  have hsd : SoundC E.P (evw E) := fun f args h out h' e => by
    obtain ⟨k, e⟩ := (evw_iff primsC).1 e
    exact ev_ok okE primsOk k f args h out h' e
  refine loneS cal (fun a ha => ?_) (recA_lt ls ts) (fun S w argv hw hr => ?_) hh
  · rcases List.mem_cons.1 ha with rfl | ha
    · exact ltA_ok (by rw [ltA]; exact ltE_str 0 ls)
    · rw [List.mem_singleton.1 ha]; exact ltA_ok (by rw [ltA, ← Ty.cellsL_map]; exact Ty.ltE 0 ts)
  have hM : maxLen = 9223372036854775807 := rfl
  have hh0 : RepHeap (Gz S) w [] := ⟨rfl, fun i cs h => (by simp at h)⟩
  refine calls_of_wp Try.func25 (by rfl : Try.f25.body = some (.seq A1 (.seq A2 (.seq A3 (.seq A4 (.seq SR rest)))))) ?_
  refine (wpIn_wide (n := 0)).1 ?_
  by_cases hl : ls.length = ts.length
  · obtain ⟨fl, f1, f2, f3, f4⟩ := held_args hl hr
    have hfl : fl.length = ls.length := by rw [← f1, List.length_map]
    have hat := argS (d := 0) (nt := nt) f4 hh0 hw (by simp [nt, Try.ntmps25])
    refine wpIn_seq (seg_keep (ro := none) (nn := 0) (H := HH) okE hsd [0, 1, 4] (kA1 (evw E) (fl.length + 1) [] _ _) hat rfl fun a1 w1 hat1 hd1 => ?_)
    have k2 := kA2 (evw E) (fl.length + 1) [] (.sl 1 (fl.map fun x => strC x.s)) (.sl 5 (fl.map opq))
    rw [lenA22', bind_some', lenA23', bind_some', List.length_map, List.length_map, bin_int, neqI, bind_some', boolB, bind_some', neI, decide_eq_true rfl, Bool.not_true, condF] at k2
    refine wpIn_seq (seg_keep (H := HH) okE hsd [0, 1, 4] k2 hat1 hd1 fun a2 w2 hat2 hd2 => ?_)
    refine wpIn_seq (seg_keep (H := HH) okE hsd [0, 1, 4, 6] (kA3 (evw E) (fl.length + 1) [] _ _) hat2 hd2 fun a3 w3 hat3 hd3 => ?_)
    have k4 := kA4 (evw E) (fl.length + 1) [] (.sl 1 (fl.map fun x => strC x.s)) (.sl 5 (fl.map opq))
    have la := loopA (evw E) (fl.length + 1) [] fl (by rw [hfl, show maxApp = 2147483648 from rfl]; omega) (fl.length + 1) 0 (Nat.zero_le _) (by omega)
    rw [lenA22', bind_some', List.length_map] at k4
    rw [List.take_zero, List.map_nil] at la
    rw [show ((0 : Nat) : Int) = 0 from rfl] at la
    rw [la] at k4
    refine wpIn_seq (seg_keep (H := HH) okE hsd [4, 6] k4 hat3 hd3 fun a4 w4 hat4 hd4 => ?_)
    obtain ⟨G4, r4, n4, fr4⟩ := hat4
    have fin : ∀ (q : List (ByteArray × Ty)) (a5 : Act) (w5 : World), q.length = fl.length → q.Perm ((fl.map Fld.s).zip ts) → Sorted q → RepSt 0 G4 w5 { s := lkS [(4, zloc), (6, .c (.v (.sl 6 (q.map ge))))], h := [] } a5.tmps → Fr 0 (Gz S) w G4 w5 → a5.tmps.size = nt → a5.defers = [] →
        rest.wpIn (FF none) 0 Try.prog (bodyPost Try.prog Try.f25 (LoneEndS S w (recA ls ts))) a5 w5 := by
      intro q a5 w5 hq1 hq2 hq3 r5 fr5 n5 hd5
      have kr := kR (evw E) (q.length + 1) [] [] (q.map ge)
      have lb := loopB [] (q.length + 1) [] q (by rw [hq1, hfl]; exact hm) (q.length + 1) 0 (Nat.zero_le _) (by omega)
      rw [List.take_zero, List.map_nil, List.map_nil, List.map_nil, List.map_nil, show ((0 : Nat) : Int) = 0 from rfl] at lb
      rw [lenA50, bind_some', List.length_map, lb] at kr
      have e : recQ q = recA ls ts := by
        unfold recA
        rw [decide_eq_true hl, cond_true]
        obtain ⟨s1, s2⟩ := sortQ_ok (ls.zip ts)
        exact rec_uniq (hq2.trans (by rw [f1]; exact s1.symm)) hq3 s2
      rw [e] at kr
      exact rest_ok okE hsd hh0 fr5 kr ⟨G4, r5, n5, Fr.refl _ _ _⟩ hd5 fun e w' h => lone_of (recA_lt ls ts) h
    refine wpIn_seq ?_
    have s6 := r4.slot 6
    have hput : ∀ (x : Value) t, t ≠ 35 → t ≠ 36 → ((a4.put (some 35) x).put (some 36) (.tuple #[])).tmps.getD t undef = a4.tmps.getD t undef := fun x t h1 h2 => by
      rw [SET.put_ne _ _ _ _ (by rw [SET.put_size, n4]; decide) h2, SET.put_ne _ _ _ _ (by rw [n4]; decide) h1]
    have hpsz : ∀ x : Value, ((a4.put (some 35) x).put (some 36) (.tuple #[])).tmps.size = nt := fun x => by rw [SET.put_size, SET.put_size, n4]
    have hpd : ∀ x : Value, ((a4.put (some 35) x).put (some 36) (.tuple #[])).defers = [] := fun x => by rw [put_defers, put_defers, hd4]
    rcases s6 with ⟨hx, hnil⟩ | ⟨bo, cap, arr, T, hx, ho, hb, hsz, hcap, hSb, hrep, _⟩
    · have hnil : fl = [] := by cases fl with | nil => rfl | cons _ _ => cases hnil
      subst hnil
      have hts : ts = [] := by
        have : ls.length = 0 := by rw [← hfl]; rfl
        exact List.eq_nil_of_length_eq_zero (by omega)
      refine sort_step n4 hx (sort_nil w4 _) ?_
      rintro e w5 ⟨rfl, rfl⟩
      refine ⟨rfl, fin [] _ _ rfl (by rw [hts]; exact .refl _) .nil ?_ fr4 (hpsz _) (hpd _)⟩
      refine ⟨fun i => ?_, fun u t off hu => ?_, r4.heap, r4.within⟩
      · by_cases e4 : i = 4
        · subst e4; rw [hput _ _ (by decide) (by decide)]; exact r4.slot 4
        · by_cases e6 : i = 6
          · subst e6; rw [hput _ _ (by decide) (by decide), hx]; exact RepA.slN 6
          · have : lkS [(4, zloc), (6, Slot.c (.v (.sl 6 (([] : List (ByteArray × Ty)).map ge))))] i = .dead := by
              show (bif Nat.beq 4 i then _ else bif Nat.beq 6 i then _ else _) = _
              have q4 : Nat.beq 4 i = false := by cases h : Nat.beq 4 i with | false => rfl | true => exact absurd (Nat.eq_of_beq_eq_true h).symm e4
              have q6 : Nat.beq 6 i = false := by cases h : Nat.beq 6 i with | false => rfl | true => exact absurd (Nat.eq_of_beq_eq_true h).symm e6
              rw [q4, q6]; rfl
            show RepSlot _ _ _ _ (lkS _ i) _
            rw [this]; trivial
      · exfalso
        have hu : lkS [(4, zloc), (6, Slot.c (.v (.sl 6 (([] : List (ByteArray × Ty)).map ge))))] u = .path t off := hu
        rcases lkS_spec [(4, zloc), (6, Slot.c (.v (.sl 6 (([] : List (ByteArray × Ty)).map ge))))] u with e | e
        · rw [e] at hu; cases hu
        · rw [hu] at e; simp at e
    · rw [List.length_map] at hx hcap
      rw [flat6] at hSb hrep
      have hflat := repC_lit hrep
      have hle : fl.length * 6 ≤ arr.size := by rw [hsz]; exact Nat.mul_le_mul_right 6 hcap
      refine sort_step n4 hx (sort_some hb hflat (by omega)) ?_
      rintro e w5 ⟨rfl, d', hsw, hp, hso⟩
      refine ⟨rfl, ?_⟩
      obtain ⟨q, q1, q2, q3⟩ := f2.perm hp
      have hql : q.length = fl.length := by
        have := congrArg List.length q2
        rw [List.length_map, List.length_map] at this
        rw [this]; exact hp.length_eq.symm
      obtain ⟨r5, fr5⟩ := after_sort fr4 hw r4 ho hb hSb hcap hx hle hsw hp q2 q3 (hput _ 4 (by decide) (by decide)) (hput _ 6 (by decide) (by decide))
      exact fin q _ w5 hql q1 (sorted_of hp hso q2) r5 fr5 (hpsz _) (hpd _)
  · have hat := argS (d := 0) (nt := nt) hr hh0 hw (by simp [nt, Try.ntmps25])
    refine wpIn_seq (seg_keep (ro := none) (nn := 0) (H := HH) okE hsd [0, 1, 4] (kA1 (evw E) 0 [] _ _) hat rfl fun a1 w1 hat1 hd1 => ?_)
    obtain ⟨G1, r1, n1, fr1⟩ := hat1
    have k2 := kA2r (evw E) 0 [] (.sl 1 (ls.map strC)) (.sl 5 (ts.map Ty.cells)) []
    rw [lenA22', bind_some', lenA23', bind_some', List.length_map, List.length_map, bin_int, neqI, bind_some', boolB, bind_some', neI, decide_eq_false hl, Bool.not_false, condT] at k2
    refine wpIn_seq (Code.wpIn_mono (fun e a' w' hq => ?_) (evC_ok (ro := none) (nn := 0) (D := []) (G0 := G1) (w0 := w1) okE hsd A2 0 _ _ _ _ k2 ⟨G1, r1, n1, Fr.refl _ _ _⟩ hd1))
    obtain ⟨hd', hq⟩ := hq
    cases e with
    | normal => obtain ⟨st', G', j1, _⟩ := hq; cases j1
    | ret =>
      obtain ⟨st', G', j1, j2, j3, j4⟩ := hq
      obtain ⟨v, m1, ⟨G2, m2, m3, m4, m5⟩, m6⟩ := finish_ok (H := HH) (fn := Try.f25) (out := .ret (.tup [.agg zeroC, .lit (.bool false)])) (h' := []) okE hh0 j2 (fr1.trans j4) j1
      refine ⟨hd', v, m1, ?_⟩
      have e : (AV.tup [.agg zeroC, .lit (.bool false)]) = recA ls ts := by unfold recA; rw [decide_eq_false hl, cond_false]
      refine lone_of (recA_lt ls ts) ⟨G2, m2, m3, m4, ?_⟩
      rw [← e]; exact m5
    | exit i => obtain ⟨st', G', j1, _⟩ := hq; cases j1
    | panic ch => obtain ⟨x, v, G', h', _, j1, _⟩ := hq; cases j1
    | goto l => exact hq.elim
    | outgrown => exact hq.elim
end RC
def p25x : (Nat → List AV → Heap → R) → List AV → Heap → R := fun _ args h => match args with
  | [.sl 1 ls, .sl 5 ts] => (decSs ls).bind fun l => (decE ts).bind fun t => bif Nat.ble l.length 1048576 then some (.ret (RC.recA l t), h) else none
  | _ => none
theorem p25x_ok (call : Nat → List AV → Heap → R) (args : List AV) (h : Heap) (out : Out) (h' : Heap) (e : p25x call args h = some (out, h')) : Ends Try.prog 25 args h out h' := by
  unfold p25x at e
  split at e
  · rw [Option.bind_eq_some_iff] at e; obtain ⟨l, hl, e⟩ := e
    rw [Option.bind_eq_some_iff] at e; obtain ⟨t, ht, e⟩ := e
    obtain ⟨hs, e⟩ := condE e
    have e := Option.some.inj e; cases e
    rw [decSs_ok hl, decE_ok ht]
    exact RC.ends25 l t (Nat.le_of_ble_eq_true hs) _
  · cases e
theorem p25x_run (call : Nat → List AV → Heap → R) (ls : List ByteArray) (ts : List Ty) (hl : ls.length ≤ 1048576) (h : Heap) : p25x call [.sl 1 (ls.map strC), .sl 5 (ts.map Ty.cells)] h = some (.ret (RC.recA ls ts), h) := by
  unfold p25x
  have e : decE (ts.map Ty.cells) = some ts := by rw [← Ty.cellsL_map]; exact decE_cells ts
  simp only [decSs_map, e, bind_some']
  rw [show Nat.ble ls.length 1048576 = true from by rw [Nat.ble_eq]; exact hl, condT]
end Go.Sh.T
