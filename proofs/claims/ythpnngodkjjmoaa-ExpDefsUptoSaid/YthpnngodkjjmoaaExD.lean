/- ExD: part of the proof: a shadow of the machine that is proved sound, and what the functions of this seat compute. Conditions: none. -/
import Derived.Test.YthpnngodkjjmoaaShC
import Derived.Test.YthpnngodkjjmoaaExA
set_option linter.unusedSimpArgs false
/- exp.set, exp.Calls: texts gathered, sorted, compacted. -/
namespace Go.Sh.T
set_option maxRecDepth 1000000
set_option linter.unusedVariables false
set_option linter.unusedSimpArgs false
open Go Go.Sh Go.Proofs Go.Shelf

def laysSort_ren : Shelf.Ren := { f := fun x => match x with | 190 => 85 | 125 => 103 | 258 => 102 | 128 => 118 | 129 => 119 | 302 => 109 | 303 => 110 | 304 => 111 | 305 => 112 | 306 => 113 | 307 => 114 | 308 => 115 | 309 => 116 | 310 => 117 | 333 => 123 | 329 => 124 | 330 => 125 | 334 => 126 | 335 => 127 | 336 => 128 | 344 => 129 | n => n, t := fun x => match x with | 31 => 23 | 9 => 9 | 3 => 3 | 46 => 94 | 0 => 0 | 51 => 106 | 53 => 108 | 4 => 4 | 183 => 98 | 182 => 97 | 131 => 103 | 5 => 5 | 218 => 110 | 222 => 114 | 228 => 116 | 229 => 45 | n => n, g := fun n => n }
theorem laysSort : Lays.n190 Try.prog laysSort_ren :=
  { mixed := by kernel_rfl, f125 := Eq.trans Try.func103 (congrArg some (by kernel_rfl)), f128 := Eq.trans Try.func118 (congrArg some (by kernel_rfl)), f129 := Eq.trans Try.func119 (congrArg some (by kernel_rfl)), f190 := Eq.trans Try.func85 (congrArg some (by kernel_rfl)), f258 := Eq.trans Try.func102 (congrArg some (by kernel_rfl)), f302 := Eq.trans Try.func109 (congrArg some (by kernel_rfl)), f303 := Eq.trans Try.func110 (congrArg some (by kernel_rfl)), f304 := Eq.trans Try.func111 (congrArg some (by kernel_rfl)), f305 := Eq.trans Try.func112 (congrArg some (by kernel_rfl)), f306 := Eq.trans Try.func113 (congrArg some (by kernel_rfl)), f307 := Eq.trans Try.func114 (congrArg some (by kernel_rfl)), f308 := Eq.trans Try.func115 (congrArg some (by kernel_rfl)), f309 := Eq.trans Try.func116 (congrArg some (by kernel_rfl)), f310 := Eq.trans Try.func117 (congrArg some (by kernel_rfl)), f329 := Eq.trans Try.func124 (congrArg some (by kernel_rfl)), f330 := Eq.trans Try.func125 (congrArg some (by kernel_rfl)), f333 := Eq.trans Try.func123 (congrArg some (by kernel_rfl)), f334 := Eq.trans Try.func126 (congrArg some (by kernel_rfl)), f335 := Eq.trans Try.func127 (congrArg some (by kernel_rfl)), f336 := Eq.trans Try.func128 (congrArg some (by kernel_rfl)), f344 := Eq.trans Try.func129 (congrArg some (by kernel_rfl)), t0 := Try.underlying0, a0 := Try.isAgg0, z0 := Try.sizeOf0, v0 := Try.zeroValue0, t3 := Try.underlying3, a3 := Try.isAgg3, z3 := Try.sizeOf3, v3 := Try.zeroValue3, t4 := Try.underlying4, a4 := Try.isAgg4, z4 := Try.sizeOf4, v4 := Try.zeroValue4, t5 := Try.underlying5, a5 := Try.isAgg5, z5 := Try.sizeOf5, v5 := Try.zeroValue5, t9 := Try.underlying9, a9 := Try.isAgg9, z9 := Try.sizeOf9, v9 := Try.zeroValue9, t31 := Try.underlying23, a31 := Try.isAgg23, z31 := Try.sizeOf23, v31 := Try.zeroValue23, t46 := Try.underlying94, a46 := Try.isAgg94, z46 := Try.sizeOf94, v46 := Try.zeroValue94, t51 := Try.underlying106, a51 := Try.isAgg106, z51 := Try.sizeOf106, v51 := Try.zeroValue106, t53 := Try.underlying108, a53 := Try.isAgg108, z53 := Try.sizeOf108, v53 := Try.zeroValue108, t131 := Try.underlying103, a131 := Try.isAgg103, z131 := Try.sizeOf103, v131 := Try.zeroValue103, t182 := Try.underlying97, a182 := Try.isAgg97, z182 := Try.sizeOf97, v182 := Try.zeroValue97, t183 := Try.underlying98, a183 := Try.isAgg98, z183 := Try.sizeOf98, v183 := Try.zeroValue98, t218 := Try.underlying110, a218 := Try.isAgg110, z218 := Try.sizeOf110, v218 := Try.zeroValue110, t222 := Try.underlying114, a222 := Try.isAgg114, z222 := Try.sizeOf114, v222 := Try.zeroValue114, t228 := Try.underlying116, a228 := Try.isAgg116, z228 := Try.sizeOf116, v228 := Try.zeroValue116, t229 := Try.underlying45, a229 := Try.isAgg45, z229 := Try.sizeOf45, v229 := Try.zeroValue45 }
def laysCompact_ren : Shelf.Ren := { f := fun x => match x with | 194 => 86 | n => n, t := fun x => match x with | 31 => 23 | 9 => 9 | 3 => 3 | 4 => 4 | 0 => 0 | n => n, g := fun n => n }
theorem laysCompact : Lays.n194 Try.prog laysCompact_ren :=
  { mixed := by kernel_rfl, f194 := Eq.trans Try.func86 (congrArg some (by kernel_rfl)), t0 := Try.underlying0, a0 := Try.isAgg0, z0 := Try.sizeOf0, v0 := Try.zeroValue0, t3 := Try.underlying3, a3 := Try.isAgg3, z3 := Try.sizeOf3, v3 := Try.zeroValue3, t4 := Try.underlying4, a4 := Try.isAgg4, z4 := Try.sizeOf4, v4 := Try.zeroValue4, t9 := Try.underlying9, a9 := Try.isAgg9, z9 := Try.sizeOf9, v9 := Try.zeroValue9, t31 := Try.underlying23, a31 := Try.isAgg23, z31 := Try.sizeOf23, v31 := Try.zeroValue23 }

theorem sort85 {w : World} {x : Value} {l : List ByteArray} (h : OwnVal w x l) (hl : l.length < 4611686018427387904) :
    Calls Try.prog 85 #[x] w fun e w' => e = .returned (.tuple #[]) ∧ OwnVal w' x (sortL l) ∧ Turned w w' (blockV x) := sortC laysSort h hl
theorem compact86 {w : World} {x : Value} {l : List ByteArray} (h : OwnVal w x l) (hl : l.length < 4611686018427387904) :
    Calls Try.prog 86 #[x] w fun e w' => ∃ v, e = .returned v ∧ OwnVal w' v (compactL l) ∧ (∀ k, blockV v = some k → blockV x = some k) ∧ Turned w w' (blockV x) := compactC laysCompact h hl

theorem callable {f : Nat} {fn : Func} (h : Try.prog.funcs[f]? = some fn) (h1 : (fn.name == "runtime.NumGoroutine") = false) (h2 : fn.body.isSome = true) : Callable Try.prog f := ⟨fn, h, h1, h2⟩
theorem calb53 : Callable Try.prog 53 := callable Try.func53 (by kernel_rfl) rfl
theorem calb85 : Callable Try.prog 85 := callable Try.func85 (by kernel_rfl) rfl
theorem calb86 : Callable Try.prog 86 := callable Try.func86 (by kernel_rfl) rfl

namespace SET
open W26 (pL pR)
noncomputable def body : Code := Try.f53.body.getD .skip
def opsOf : Code → Array Oper
  | .region _ ops _ => ops
  | _ => #[]
noncomputable def o0 (i : Nat) : Oper := (opsOf (pL body)).getD i default
noncomputable def o1 (i : Nat) : Oper := (opsOf (pL (pR body))).getD i default
noncomputable def o2 (i : Nat) : Oper := (opsOf (pL (pR (pR body)))).getD i default
theorem getT (a : Array Value) (t : Nat) (v : Value) (ht : t < a.size) : (a.setIfInBounds t v).getD t undef = v := by rw [getD_put _ _ _ _ ht, if_pos rfl]
theorem getN (a : Array Value) (t u : Nat) (v : Value) (ht : t < a.size) (hn : u ≠ t) : (a.setIfInBounds t v).getD u undef = a.getD u undef := by rw [getD_put _ _ _ _ ht, if_neg hn]
theorem eval_tmp (a : Act) (t : Nat) : a.eval (.tmp t) = a.tmps.getD t undef := rfl
theorem put_get (a : Act) (t : Nat) (v : Value) (ht : t < a.tmps.size) : (a.put (some t) v).tmps.getD t undef = v := getT a.tmps t v ht
theorem put_ne (a : Act) (t u : Nat) (v : Value) (ht : t < a.tmps.size) (hn : u ≠ t) : (a.put (some t) v).tmps.getD u undef = a.tmps.getD u undef := getN a.tmps t u v ht hn
theorem put_size (a : Act) (t : Nat) (v : Value) : (a.put (some t) v).tmps.size = a.tmps.size := by show (a.tmps.setIfInBounds t v).size = _; simp
/-- One call of a function of one slot. -/
theorem step_call1 {P : Program} {w : World} {a : Act} {ops : Array Oper} {i f t : Nat} {o : Oper} (hi : ops[i]? = some o) (hg : o.guard = none) (hc : ∃ c, o.op = .call c ∧ c.callee = .value (.func f) ∧ c.args = #[.tmp t]) (hcb : Callable P f) {x : Value} (hx : a.tmps.getD t undef = x)
    {R : Ending → World → Prop} (hcl : Calls P f #[x] w R) {K : Act → World → Prop} {Q : Exit → Act → World → Prop} (hR : ∀ e w', R e w' → ∃ v, e = .returned v ∧ K (a.put o.dst v) w') : wpOpIn (FF none) 0 P ops Q i K a w := by
  obtain ⟨c, h1, h2, h3⟩ := hc
  refine step_callX hi hg h1 h2 hcb (R := R) ?_ hR
  rw [h3, show (#[Operand.tmp t] : Array Operand).map a.eval = #[x] from by rw [← hx, List.map_toArray]; rfl]
  exact hcl
theorem set_tail {a : Act} {w : World} {R : Ending → World → Prop} {x : Value} {l : List ByteArray} (h : OwnVal w x l) (hl : l.length < 4611686018427387904) (hs : a.tmps.size = 7) (hx : a.tmps.getD 0 undef = x) (hd : a.defers = [])
    (hR : ∀ v w', OwnVal w' v (riseL l) → (∀ k, blockV v = some k → blockV x = some k) → Turned w w' (blockV x) → R (.returned v) w') : (pR body).wpIn (FF none) 0 Try.prog (bodyPost Try.prog Try.f53 R) a w := by
  have hb : pR body = .seq (pL (pR body)) (.seq (pL (pR (pR body))) .ret) := by rfl
  rw [hb]
  refine wpIn_seq ?_
  change (Code.region _ (opsOf (pL (pR body))) false).wpIn _ _ _ _ _ _
  refine wpIn_region ?_
  change wpOpsIn _ _ _ _ _ [0, 1] _ _
  rw [wpOpsIn_cons]
  refine step_pureX (o := o1 0) (v := x) rfl rfl (fun c hc => by cases hc) (by rw [run_moveX (x := .tmp 0) rfl, eval_tmp, hx]) ?_
  rw [show (o1 0).dst = some 3 from rfl, wpOpsIn_cons]
  refine step_call1 (o := o1 1) (t := 3) rfl rfl ⟨_, rfl, rfl, rfl⟩ calb85 (put_get _ _ _ (by rw [hs]; decide)) (sort85 h hl) ?_
  rintro e w1 ⟨rfl, h1, t1⟩
  refine ⟨_, rfl, ?_⟩
  rw [show (o1 1).dst = some 4 from rfl]
  obtain ⟨a1, ha1⟩ : ∃ a1, a1 = (a.put (some 3) x).put (some 4) (.tuple #[]) := ⟨_, rfl⟩
  have s1 : a1.tmps.size = 7 := by rw [ha1, put_size, put_size, hs]
  have x1 : a1.tmps.getD 0 undef = x := by rw [ha1, put_ne _ _ _ _ (by rw [put_size, hs]; decide) (by decide), put_ne _ _ _ _ (by rw [hs]; decide) (by decide), hx]
  have d1 : a1.defers = [] := by rw [ha1, put_defers, put_defers, hd]
  rw [← ha1]
  show Code.wpIn _ _ _ _ _ _ _
  refine wpIn_seq ?_
  change (Code.region _ (opsOf (pL (pR (pR body)))) false).wpIn _ _ _ _ _ _
  refine wpIn_region ?_
  change wpOpsIn _ _ _ _ _ [0, 1, 2] _ _
  rw [wpOpsIn_cons]
  refine step_pureX (o := o2 0) (v := x) rfl rfl (fun c hc => by cases hc) (by rw [run_moveX (x := .tmp 0) rfl, eval_tmp, x1]) ?_
  rw [show (o2 0).dst = some 5 from rfl, wpOpsIn_cons]
  refine step_call1 (o := o2 1) (t := 5) rfl rfl ⟨_, rfl, rfl, rfl⟩ calb86 (put_get _ _ _ (by rw [s1]; decide)) (compact86 h1 (by rw [sortL_len]; exact hl)) ?_
  rintro e w2 ⟨v, rfl, h2, hb, t2⟩
  refine ⟨v, rfl, ?_⟩
  rw [show (o2 1).dst = some 6 from rfl, wpOpsIn_cons]
  refine step_pureX (o := o2 2) (v := v) rfl rfl (fun c hc => by cases hc) (by rw [run_assign (x := .tmp 6) rfl, eval_tmp, put_get _ _ _ (by rw [put_size, s1]; decide)]) ?_
  rw [show (o2 2).dst = some 2 from rfl]
  show Code.wpIn _ _ _ _ _ _ _
  refine wpIn_ret ?_
  rw [compact_sort] at h2
  obtain ⟨a2, ha2⟩ : ∃ a2, a2 = ((a1.put (some 5) x).put (some 6) v).put (some 2) v := ⟨_, rfl⟩
  rw [← ha2]
  have d2 : a2.defers = [] := by rw [ha2, put_defers, put_defers, put_defers, d1]
  have x2 : a2.tmps.getD 2 undef = v := by rw [ha2, put_get _ _ _ (by rw [put_size, put_size, s1]; decide)]
  exact ⟨d2, v, by
    have hrun : (Try.f53.results.toList.mapM (rdOne E0.P a2.tmps)).run E0.P w2 = .ok [v] w2 := by
      show ([ResultVar.tmp 2].mapM (rdOne E0.P a2.tmps)).run E0.P w2 = _
      simp [rdOne, x2]
    exact results_run (E := E0) hrun, hR v w2 h2 hb (t1.trans t2)⟩
theorem set53 {w : World} {x : Value} {l : List ByteArray} (h : OwnVal w x l) (hl : l.length < 4611686018427387904) :
    Calls Try.prog 53 #[x] w fun e w' => ∃ v, e = .returned v ∧ OwnVal w' v (riseL l) ∧ (∀ k, blockV v = some k → blockV x = some k) ∧ Turned w w' (blockV x) := by
  refine calls_of_wp Try.func53 (by rfl : Try.f53.body = some (.seq (pL body) (pR body))) ?_
  refine (wpIn_wide (n := 0)).1 ?_
  refine wpIn_seq ?_
  change (Code.region _ (opsOf (pL body)) false).wpIn (FF none) _ _ _ _ _
  refine wpIn_region ?_
  change wpOpsIn _ _ _ _ _ [0] _ _
  rw [wpOpsIn_cons]
  refine step_pureX (o := o0 0) rfl rfl (fun c hc => by cases hc) (run_assign rfl) ?_
  show Code.wpIn _ _ _ _ _ _ _
  refine set_tail h hl ?_ ?_ rfl fun v w' a b c => ⟨v, rfl, a, b, c⟩
  · rw [show (o0 0).dst = some 2 from rfl, put_size]; rfl
  · rw [show (o0 0).dst = some 2 from rfl, put_ne _ _ _ _ (show 2 < (#[x] ++ Array.replicate 6 undef : Array Value).size by simp) (by decide)]; rfl
end SET
end Go.Sh.T

/- exp.Calls: a range over a function that gathers texts, by its shadow; sorted and compacted by hand. -/
namespace Go.Sh.T
set_option maxRecDepth 1000000
set_option linter.unusedVariables false
set_option linter.unusedSimpArgs false
open Go Go.Sh Go.Proofs

/-- Gathered texts, loaded, sorted and compacted. -/
theorem tail3 {a : Act} {w : World} {id : Nat} {ops : Array Oper} {i0 i1 i2 : Oper} (h0 : ops[0]? = some i0) (h1 : ops[1]? = some i1) (h2 : ops[2]? = some i2) (hs : ops.size = 3) (g0 : i0.guard = none) (g1 : i1.guard = none) (g2 : i2.guard = none) {p t u r : Nat}
    (p0 : i0.op = .load 23 (.tmp p)) (d0 : i0.dst = some t) (p1 : ∃ c, i1.op = .call c ∧ c.callee = .value (.func 53) ∧ c.args = #[.tmp t]) (d1 : i1.dst = some u) (p2 : i2.op = .assign (.tmp u)) (d2 : i2.dst = some r) (ht : t < a.tmps.size) (hu : u < a.tmps.size) (hr : r < a.tmps.size)
    {bo : Nat} {arr : Array Value} {T : TypeId} {x : Value} (hp : a.tmps.getD p undef = .pointer (some ⟨bo, 0, none⟩)) (hb : w.heap[bo]? = some (.cells arr T (0, 0))) (hx : arr[0]? = some x) {l : List ByteArray} (hv : OwnVal w x l) (hl : l.length < 4611686018427387904)
    {Q : Exit → Act → World → Prop} (hQ : ∀ a' w' v, a'.tmps.getD r undef = v → a'.defers = a.defers → OwnVal w' v (riseL l) → (∀ k, blockV v = some k → blockV x = some k) → Turned w w' (blockV x) → Q .normal a' w') : (Code.region id ops false).wpIn (FF none) 0 Try.prog Q a w := by
  have tok : TyOk Try.prog 23 ti23 := tok23
  refine wpIn_region ?_
  rw [hs, show List.range 3 = [0, 1, 2] from rfl, wpOpsIn_cons]
  refine step_pureX h0 g0 (fun c hc => by rw [p0] at hc; cases hc) (run_load1 tok rfl p0 (b := bo) (off := 0) (by rw [SET.eval_tmp, hp]) hb hx) ?_
  rw [d0, wpOpsIn_cons]
  refine SET.step_call1 h1 g1 p1 calb53 (SET.put_get _ _ _ ht) (SET.set53 hv hl) ?_
  rintro e w1 ⟨v, rfl, k1, k2, k3⟩
  refine ⟨v, rfl, ?_⟩
  rw [d1, wpOpsIn_cons]
  refine step_pureX (v := v) h2 g2 (fun c hc => by rw [p2] at hc; cases hc) (by rw [run_assign p2, SET.eval_tmp, SET.put_get _ _ _ (by rw [SET.put_size]; exact hu)]) ?_
  rw [d2]
  exact hQ _ w1 v (SET.put_get _ _ _ (by rw [SET.put_size, SET.put_size]; exact hr)) (by rw [put_defers, put_defers, put_defers]) k1 k2 k3
theorem res_tmp {fn : Func} {r : Nat} (h : fn.results.toList = [.tmp r]) {tmps : Array Value} {w : World} {v : Value} (hv : tmps.getD r undef = v) : (results fn tmps).run Try.prog w = .ok v w := by
  have hrun : (fn.results.toList.mapM (rdOne E0.P tmps)).run E0.P w = .ok [v] w := by
    rw [h]
    simp [rdOne, hv]
  exact results_run (E := E0) hrun
theorem own_put {w : World} {D : Nat} {m : List Deferred} {y : Obj} (hD : w.heap[D]? = some (.deferred (some m))) {v : Value} {l : List ByteArray} (h : OwnVal w v l) : OwnVal (w.putObj D y) v l := by
  rcases h with h | ⟨b, cap, arr, T, h1, h2, h3⟩
  · exact .inl h
  · refine .inr ⟨b, cap, arr, T, h1, ?_, h3⟩
    have : b ≠ D := fun e => by rw [e, hD] at h2; cases h2
    exact (put_other this).trans h2

namespace HE
open W26 (Tr TrL pL pR)
namespace K
noncomputable def body : Code := Try.f24.body.getD .skip
noncomputable def A := pL body
noncomputable def A2 := pL (pR body)
noncomputable def B := pL (pL (pR (pR body)))
noncomputable def rng := pL (pR (pL (pR (pR body))))
noncomputable def rest := pR (pR (pR body))
abbrev HH : FHint := { hb := [3], hp := [3], tr := [11], base := [(8, 4), (12, 4)] }
def addStr (s : ByteArray) (i : Nat) (h : Heap) : Option (Option Code × Heap) :=
  (htake h i 0).bind fun q => cond (Nat.beq q.1.1 1 && Nat.ble (q.1.2.length + ([[.lit (.string s)]] : List (List AV)).length) maxApp) ((hstore q.2 i 0 [.own 1 (q.1.2 ++ [[.lit (.string s)]])]).bind fun h2 => some (none, h2)) none
section
variable (q0 q1 q2 q3 q4 q5 : AV) (ks : List (List AV)) (h : Heap)
theorem kA : evC E0 HH Try.f24.ntmps call0 0 A 0 { s := lkS (argSlots 0 [.agg [q0, q1, q2, q3, q4, q5, .sl 7 ks]]), h := h } (kL [1]) kN = some ([(1, .loc ([q0, q1, q2, q3, q4, q5, .sl 7 ks].map .v))], h) := by kernel_rfl
theorem kA2 : evC E0 HH Try.f24.ntmps call0 0 A2 0 { s := lkS [(1, .loc ([q0, q1, q2, q3, q4, q5, .sl 7 ks].map .v))], h := h } (kL [1, 3]) kN = some ([(1, .loc ([q0, q1, q2, q3, q4, q5, .sl 7 ks].map .v)), (3, hpS h.length)], h ++ ([[.own 1 []]] : Heap)) := by kernel_rfl
theorem kB (i : Nat) : evC E0 HH Try.f24.ntmps call0 0 B 0 { s := lkS [(1, .loc ([q0, q1, q2, q3, q4, q5, .sl 7 ks].map .v)), (3, hpS i)], h := h } (kL [3, 6]) kN = some ([(3, hpS i), (6, fnC h.length)], h ++ [[q0, q1, q2, q3, q4, q5, .sl 7 ks].map .v]) := by kernel_rfl
theorem kR (i : Nat) (k : Int) (s : ByteArray) : roundE E0 HH Try.f24.ntmps call0 0 (lkS [(3, hpS i)]) 7 (N.asg rng) (N.bod rng) (.agg [.lit (.int .i64 k), q1, .lit (.string s), q3, q4, q5, .sl 7 ks]) h =
    cond (k == 13) (addStr s i h) (some (none, h)) := by kernel_rfl
end
/-- The names of calls. -/
def callW : List AV → Option (List ByteArray)
  | [] => some []
  | x :: r => match x with
    | .agg [.lit (.int .i64 k), _, .lit (.string s), _, _, _, .sl 7 _] => (callW r).bind fun l => some (bif k == 13 then s :: l else l)
    | _ => none
theorem add_own (h : Heap) (z : List (List Cell)) (acc : List (List AV)) (s : ByteArray) (hm : acc.length + 1 ≤ maxApp) : addStr s h.length (h ++ ([.own 1 acc] :: z)) = some (none, h ++ ([.own 1 (acc ++ [[.lit (.string s)]])] :: z)) := by
  unfold addStr
  have e1 : htake (h ++ ([.own 1 acc] :: z)) h.length 0 = some ((1, acc), h ++ ([.v .dead] :: z)) := by
    unfold htake
    rw [List.getElem?_append_right (Nat.le_refl _), Nat.sub_self]
    simp
  rw [e1, bind_some', hstore_app0, show hstore ([.v .dead] :: z) 0 0 [.own 1 (acc ++ [[.lit (.string s)]])] = some ([.own 1 (acc ++ [[.lit (.string s)]])] :: z) from rfl, Option.map_some, bind_some']
  rw [show (Nat.beq 1 1 && Nat.ble (acc.length + ([[.lit (.string s)]] : List (List AV)).length) maxApp) = true from by rw [show Nat.beq 1 1 = true from rfl, Bool.true_and, Nat.ble_eq]; exact hm, condT]
theorem fold (h : Heap) (z : List (List Cell)) : ∀ (l : List AV) (acc ls : List ByteArray), callW l = some ls → acc.length + ls.length ≤ maxApp → foldR (roundE E0 HH Try.f24.ntmps call0 0 (lkS [(3, hpS h.length)]) 7 (N.asg rng) (N.bod rng)) l (h ++ ([.own 1 (acc.map strC)] :: z)) = some (none, h ++ ([.own 1 ((acc ++ ls).map strC)] :: z))
  | [], acc, ls, hl, _ => by cases hl; rw [List.append_nil]; rfl
  | x :: l, acc, ls, hl, hm => by
    unfold callW at hl
    split at hl
    · rename_i k q1 s q3 q4 q5 ks
      rw [Option.bind_eq_some_iff] at hl; obtain ⟨b, hb, hl⟩ := hl
      have hl := Option.some.inj hl
      rw [foldR, kR]
      cases hk : k == 13 with
      | false =>
        rw [hk, cond_false] at hl; subst hl
        rw [condF]
        exact fold h z l acc b hb hm
      | true =>
        rw [hk, cond_true] at hl; subst hl
        rw [List.length_cons] at hm
        have hstep := add_own h z (acc.map strC) s (by rw [List.length_map]; omega)
        have ih := fold h z l (acc ++ [s]) b hb (by rw [List.length_append, List.length_singleton]; omega)
        rw [List.append_assoc, List.singleton_append, List.map_append] at ih
        rw [condT, hstep]
        exact ih
    · cases hl
theorem strs_lt (m : List ByteArray) : AV.lt 0 (.sl 1 (m.map strC)) := ltA_ok (by
  rw [ltA]
  induction m with
  | nil => rfl
  | cons x m ih => rw [List.map_cons, ltE, ih]; rfl)
theorem ends {c xs : List AV} (tr : Tr c xs) (hl : ∀ a ∈ c, AV.lt 0 a) {ls : List ByteArray} (hc : callW xs = some ls) (hm : ls.length ≤ maxApp) (hh : Heap) : Ends Try.prog 24 [.agg c] hh (.ret (.sl 1 ((riseL ls).map strC))) hh := by
  refine lone (callable Try.func24 (by kernel_rfl) rfl) (fun a ha => by rw [List.mem_singleton.1 ha]; exact .agg hl) (strs_lt _) (fun w argv hr => ?_) hh
  have hx := Tr.all tr
  obtain ⟨q0, q1, q2, q3, q4, q5, ks, rfl⟩ := Tr.explicit tr
  have h1 := kA q0 q1 q2 q3 q4 q5 ks []
  have h2 := kA2 q0 q1 q2 q3 q4 q5 ks []
  have h3 := kB q0 q1 q2 q3 q4 q5 ks ([] ++ [[.own 1 []]]) 0
  have hf := fold [] [[q0, q1, q2, q3, q4, q5, .sl 7 ks].map .v] xs [] ls hc (by simpa using hm)
  refine range_fnT (E := E0) (call := call0) okE0 call0_ok (fn := Try.f24) Try.func24 (by rfl : Try.f24.body = some (.seq A (.seq A2 (.seq (.seq B (.block 0 (.rangeFunc (.tmp 6) #[7] (N.asg rng) (N.bod rng)))) rest)))) (H := HH) (n := 0) (Nat.le_of_ble_eq_true rfl) [1] h1 [1, 3] h2 [3, 6] h3 (L := [(3, hpS 0)]) rfl (by decide) (by rfl) (fun i => ?_) rfl
    (W26.iter_ok tr rfl) (d := 0) hf hr (heap_all w) (within_all w) fun D G3 w3 a3 hD hge r3 n3 f3 hd3 => ?_
  · rcases i with _ | _ | _ | _ | i <;> first | exact .inr rfl | exact .inl rfl
  · rw [List.nil_append] at r3
    obtain ⟨bo, arr, T, x, k1, k2, k3, k4, k5, k6⟩ := own_out f3 r3 (t := 3) (i := 0) rfl (l := ls) rfl
    have hb : rest = .seq (pL rest) .ret := by rfl
    rw [hb]
    refine wpIn_seq ?_
    change (Code.region _ (SET.opsOf (pL rest)) false).wpIn _ _ _ _ _ _
    have hml : ls.length < 4611686018427387904 := Nat.lt_of_le_of_lt hm (by decide)
    refine tail3 (i0 := (SET.opsOf (pL rest)).getD 0 default) (i1 := (SET.opsOf (pL rest)).getD 1 default) (i2 := (SET.opsOf (pL rest)).getD 2 default) (p := 3) (t := 16) (u := 17) (r := 2) rfl rfl rfl rfl rfl rfl rfl rfl rfl ⟨_, rfl, rfl, rfl⟩ rfl rfl rfl (by rw [n3]; decide) (by rw [n3]; decide) (by rw [n3]; decide) k1 k3 k4 k5 hml ?_
    intro a' w' v j1 j2 j3 j4 j5
    refine wpIn_ret ?_
    have hD' : w'.heap[D]? = some (.deferred (some [])) := by
      refine (j5.same D (lt_of_heap hD) fun e => ?_).trans hD
      rcases k5 with ⟨rfl, _⟩ | ⟨b, cap, arr2, T2, rfl, m1, _⟩
      · cases e
      · cases e; rw [hD] at m1; cases m1
    show LeavesInM _ _ _ _ a'.tmps _ a'.defers _ _
    rw [j2, hd3]
    refine LeavesInM.of_mark hD' (res_tmp (r := 2) rfl j1) ?_
    have hblk : ∀ b, blockV v = some b → w.heap.size ≤ b := fun b hb => (k6 b (j4 b hb)).1
    obtain ⟨z, hz⟩ := lone_end f3 j5 (fun b hb => (k6 b hb).1) j3 hblk
    have hput : Turned w' (w'.putObj D (.deferred none)) (some D) := ⟨rfl, rfl, rfl, by simp, fun k hk hp => put_other (fun e => hp (by rw [e]))⟩
    have t2 : LoneEnd w (.sl 1 ((riseL ls).map fun s => [AV.lit (.string s)])) (.returned v) (w'.putObj D (.deferred none)) := by
      have f3' : w'.os = w.os ∧ w'.tape = w.tape ∧ w'.output = w.output ∧ w.heap.size ≤ w'.heap.size ∧ ∀ b, b < w.heap.size → w'.heap[b]? = w.heap[b]? := ⟨hz.2.1, hz.2.2.1, hz.2.2.2.1, hz.2.2.2.2.1, hz.2.2.2.2.2.1⟩
      exact lone_end2 f3'.1 f3'.2.1 f3'.2.2.1 f3'.2.2.2.1 f3'.2.2.2.2 hput (fun b hb => by cases hb; exact hge) (own_put hD' j3) hblk
    exact t2
end K
end HE
def p24 : (Nat → List AV → Heap → R) → List AV → Heap → R := fun _ args h => match args with
  | [.agg cs] => (HE.preC cs).bind fun xs => (HE.K.callW xs).bind fun ls => bif ltL 0 cs && Nat.ble ls.length maxApp then some (.ret (.sl 1 ((riseL ls).map strC)), h) else none
  | _ => none
theorem p24_ok (call : Nat → List AV → Heap → R) (args : List AV) (h : Heap) (out : Out) (h' : Heap) (e : p24 call args h = some (out, h')) : Ends Try.prog 24 args h out h' := by
  unfold p24 at e
  split at e
  · rw [Option.bind_eq_some_iff] at e; obtain ⟨xs, hx, e⟩ := e
    rw [Option.bind_eq_some_iff] at e; obtain ⟨ls, hls, e⟩ := e
    obtain ⟨hc, e⟩ := condE e
    rw [Bool.and_eq_true] at hc
    have e := Option.some.inj e; cases e
    exact HE.K.ends (HE.preC_ok hx) (ltL_ok hc.1) hls (Nat.le_of_ble_eq_true hc.2) _
  · cases e
end Go.Sh.T

namespace Go.Sh.T.FR
open Go Go.Sh Go.Proofs
set_option maxRecDepth 1000000
set_option linter.unusedVariables false
noncomputable def prims : List (Nat × ((Nat → List AV → Heap → R) → List AV → Heap → R)) := []
noncomputable def E : Env := mkEnv Try.prog fs ts prims hints []
theorem okE : E.Ok := mkEnv_ok (gs := []) allF trivial allT (by kernel_rfl) (by kernel_rfl) rfl (by kernel_rfl) (by kernel_rfl)
section
variable (F : Nat → List AV → Heap → R) (n : Nat) (h0 : Heap)
-- 50 limbeck/exp.free
noncomputable def Lp50_0 (m : Nat) (h : Heap) (x16 : AV) (x17 : AV) (i18 : Nat) (i19 : Nat) (i20 : Nat) (x21 : AV) (x22 : AV) (x23 : AV) : R := loopAt E 50 Try.f50 F n h0 [.r, .r, .r, .r, .r, .b] m { s := lkS [(1, .c (.v x16)), (2, .c (.v x17)), (3, .c (.v (.hp i18 0))), (7, .c (.v (.fn 84 [] [.hp i19 0, .hp i20 0]))), (29, .c (.v x21)), (30, .c (.v x22)), (31, .c (.v x23))], h := h }
theorem Lp50_0_succ (m : Nat) (h : Heap) (x16 : AV) (x17 : AV) (i18 : Nat) (i19 : Nat) (i20 : Nat) (x21 : AV) (x22 : AV) (x23 : AV) : Lp50_0 F n h0 (m + 1) h x16 x17 i18 i19 i20 x21 x22 x23 = (binAV E .lss 3 x23 x22).bind fun r24 => (boolOf r24).bind fun b25 => cond b25 ((indexA 7 x21 x23).bind fun e26 => (partA true 7 0 e26).bind fun v27 => (aggOf v27).bind fun l28 => cond (Nat.beq l28.length 7) ((hpart false 1 0 i18 h).bind fun v29 => (binAV E .eql 3 v29 (.lit (.int .i64 5))).bind fun r30 => (boolOf r30).bind fun b31 => cond b31 ((binAV E .eql 3 x23 (.lit (.int .i64 1))).bind fun r32 => (boolOf r32).bind fun b33 => cond b33 (onOut (F 50 [.agg [(l28.getD 0 .dead), (l28.getD 1 .dead), (l28.getD 2 .dead), (l28.getD 3 .dead), (l28.getD 4 .dead), (l28.getD 5 .dead), (l28.getD 6 .dead)], .fn 84 [] [.hp i19 0, .hp i20 0], x17] h) (fun a34 h35 => (binAV E .add 3 x23 (.lit (.int .i64 1))).bind fun r36 => Lp50_0 F n h0 m h35 (.fn 84 [] [.hp i19 0, .hp i20 0]) x17 i18 i19 i20 x21 x22 r36) (fun _ _ _ => none) (fun _ _ => none)) (onOut (F 50 [.agg [(l28.getD 0 .dead), (l28.getD 1 .dead), (l28.getD 2 .dead), (l28.getD 3 .dead), (l28.getD 4 .dead), (l28.getD 5 .dead), (l28.getD 6 .dead)], x16, x17] h) (fun a37 h38 => (binAV E .add 3 x23 (.lit (.int .i64 1))).bind fun r39 => Lp50_0 F n h0 m h38 x16 x17 i18 i19 i20 x21 x22 r39) (fun _ _ _ => none) (fun _ _ => none))) (onOut (F 50 [.agg [(l28.getD 0 .dead), (l28.getD 1 .dead), (l28.getD 2 .dead), (l28.getD 3 .dead), (l28.getD 4 .dead), (l28.getD 5 .dead), (l28.getD 6 .dead)], x16, x17] h) (fun a40 h41 => (binAV E .add 3 x23 (.lit (.int .i64 1))).bind fun r42 => Lp50_0 F n h0 m h41 x16 x17 i18 i19 i20 x21 x22 r42) (fun _ _ _ => none) (fun _ _ => none))) none) (trunc (E.hint 50) h0 (.ret (.tup [])) h) := by kernel_rfl
theorem nf50 (a0_ : AV) (a1_ : AV) (a2_ : AV) : runF E 50 Try.f50 F n [a0_, a1_, a2_] h0 = (aggOf a0_).bind fun l1 => cond (Nat.beq l1.length 7) (cond (AV.one a1_) ((hstore ((h0 ++ ([[.v (l1.getD 0 .dead), .v (l1.getD 1 .dead), .v (l1.getD 2 .dead), .v (l1.getD 3 .dead), .v (l1.getD 4 .dead), .v (l1.getD 5 .dead), .v (l1.getD 6 .dead)]] : Heap)) ++ ([[.v (.lit .nilFunc)]] : Heap)) ((h0 ++ ([[.v (l1.getD 0 .dead), .v (l1.getD 1 .dead), .v (l1.getD 2 .dead), .v (l1.getD 3 .dead), .v (l1.getD 4 .dead), .v (l1.getD 5 .dead), .v (l1.getD 6 .dead)]] : Heap))).length 0 [.v a1_]).bind fun h2 => (hpart false 1 0 (h0).length h2).bind fun v3 => (binAV E .eql 3 v3 (.lit (.int .i64 4))).bind fun r4 => (boolOf r4).bind fun b5 => cond b5 ((hpart false 1 2 (h0).length h2).bind fun v6 => onOut (applyV F a1_ [v6] h2) (fun a7 h8 => (unAV .not a7).bind fun r9 => (boolOf r9).bind fun b10 => cond b10 ((hpart false 1 2 (h0).length h8).bind fun v11 => onOut (applyV F a2_ [v11] h8) (fun a12 h13 => (hpart false 1 6 (h0).length h13).bind fun v14 => (lenA E 24 v14).bind fun n15 => Lp50_0 F n h0 n h13 a1_ a2_ (h0).length (h0).length (((h0 ++ ([[.v (l1.getD 0 .dead), .v (l1.getD 1 .dead), .v (l1.getD 2 .dead), .v (l1.getD 3 .dead), .v (l1.getD 4 .dead), .v (l1.getD 5 .dead), .v (l1.getD 6 .dead)]] : Heap))).length) v14 (.lit (.int .i64 n15)) (.lit (.int .i64 0))) (fun _ _ _ => none) (fun _ _ => none)) ((hpart false 1 6 (h0).length h8).bind fun v43 => (lenA E 24 v43).bind fun n44 => Lp50_0 F n h0 n h8 a1_ a2_ (h0).length (h0).length (((h0 ++ ([[.v (l1.getD 0 .dead), .v (l1.getD 1 .dead), .v (l1.getD 2 .dead), .v (l1.getD 3 .dead), .v (l1.getD 4 .dead), .v (l1.getD 5 .dead), .v (l1.getD 6 .dead)]] : Heap))).length) v43 (.lit (.int .i64 n44)) (.lit (.int .i64 0)))) (fun _ _ _ => none) (fun _ _ => none)) ((binAV E .eql 3 v3 (.lit (.int .i64 7))).bind fun r45 => (boolOf r45).bind fun b46 => cond b46 ((hpart false 1 6 (h0).length h2).bind fun v47 => (lenA E 24 v47).bind fun n48 => Lp50_0 F n h0 n h2 (.fn 84 [] [.hp (h0).length 0, .hp ((h0 ++ ([[.v (l1.getD 0 .dead), .v (l1.getD 1 .dead), .v (l1.getD 2 .dead), .v (l1.getD 3 .dead), .v (l1.getD 4 .dead), .v (l1.getD 5 .dead), .v (l1.getD 6 .dead)]] : Heap))).length 0]) a2_ (h0).length (h0).length (((h0 ++ ([[.v (l1.getD 0 .dead), .v (l1.getD 1 .dead), .v (l1.getD 2 .dead), .v (l1.getD 3 .dead), .v (l1.getD 4 .dead), .v (l1.getD 5 .dead), .v (l1.getD 6 .dead)]] : Heap))).length) v47 (.lit (.int .i64 n48)) (.lit (.int .i64 0))) ((hpart false 1 6 (h0).length h2).bind fun v49 => (lenA E 24 v49).bind fun n50 => Lp50_0 F n h0 n h2 a1_ a2_ (h0).length (h0).length (((h0 ++ ([[.v (l1.getD 0 .dead), .v (l1.getD 1 .dead), .v (l1.getD 2 .dead), .v (l1.getD 3 .dead), .v (l1.getD 4 .dead), .v (l1.getD 5 .dead), .v (l1.getD 6 .dead)]] : Heap))).length) v49 (.lit (.int .i64 n50)) (.lit (.int .i64 0))))) none) none := by kernel_rfl
-- 51 limbeck/exp.Free$1
theorem nf51 (a0_ : AV) : runF E 51 Try.f51 F n [a0_] h0 = some (.ret (.lit (.bool false)), h0) := by kernel_rfl
-- 52 limbeck/exp.Free$2
theorem nf52 (a0_ : AV) (i1_ : Nat) : runF E 52 Try.f52 F n [a0_, .hp i1_ 0] h0 = (htake h0 i1_ 0).bind fun q1 => cond (AV.one a0_) (cond (Nat.beq q1.1.1 1 && Nat.ble (q1.1.2.length + ([[a0_]] : List (List AV)).length) maxApp) ((hstore q1.2 i1_ 0 [.own 1 (q1.1.2 ++ [[a0_]])]).bind fun h2 => some (.ret (.tup []), h2)) none) none := by kernel_rfl
-- 84 limbeck/exp.free$1
theorem nf84 (a0_ : AV) (i1_ : Nat) (i2_ : Nat) : runF E 84 Try.f84 F n [a0_, .hp i1_ 0, .hp i2_ 0] h0 = (hpart false 1 2 i1_ h0).bind fun v1 => (binAV E .eql 9 a0_ v1).bind fun r2 => (boolOf r2).bind fun b3 => cond b3 (some (.ret (.lit (.bool true)), h0)) ((hpart false 1 0 i2_ h0).bind fun v4 => onOut (applyV F v4 [a0_] h0) (fun a5 h6 => some (.ret a5, h6)) (fun _ _ _ => none) (fun _ _ => none)) := by kernel_rfl
end
end Go.Sh.T.FR

/- Expressions as plain data; an expression read back. -/
namespace Go.Sh.T
open Go Go.Sh
set_option linter.unusedSimpArgs false
set_option linter.unusedVariables false
set_option maxRecDepth 100000

structure Exp where
  k : Int
  n : Int
  name : ByteArray
  has : Bool
  types : List Ty
  labels : List ByteArray
  kids : List Exp
mutual
def Exp.cells : Exp → List AV
  | ⟨k, n, s, b, ts, ls, xs⟩ => [.lit (.int .i64 k), .lit (.int .i64 n), .lit (.string s), .lit (.bool b), .sl 5 (ts.map Ty.cells), .sl 1 (ls.map strC), .sl 7 (Exp.cellsL xs)]
def Exp.cellsL : List Exp → List (List AV)
  | [] => []
  | t :: r => t.cells :: Exp.cellsL r
end
theorem Exp.cellsL_map : ∀ l : List Exp, Exp.cellsL l = l.map Exp.cells
  | [] => rfl
  | t :: r => by rw [Exp.cellsL, Exp.cellsL_map r]; rfl
theorem Exp.cells_eq (t : Exp) : t.cells = [.lit (.int .i64 t.k), .lit (.int .i64 t.n), .lit (.string t.name), .lit (.bool t.has), .sl 5 (t.types.map Ty.cells), .sl 1 (t.labels.map strC), .sl 7 (t.kids.map Exp.cells)] := by
  cases t; rw [Exp.cells, Exp.cellsL_map]
@[simp] theorem Exp.cells_len (t : Exp) : t.cells.length = 7 := by rw [Exp.cells_eq]; rfl
@[simp] theorem Exp.c0 (t : Exp) : t.cells.getD 0 .dead = .lit (.int .i64 t.k) := by rw [Exp.cells_eq]; rfl
@[simp] theorem Exp.c1 (t : Exp) : t.cells.getD 1 .dead = .lit (.int .i64 t.n) := by rw [Exp.cells_eq]; rfl
@[simp] theorem Exp.c2 (t : Exp) : t.cells.getD 2 .dead = .lit (.string t.name) := by rw [Exp.cells_eq]; rfl
@[simp] theorem Exp.c3 (t : Exp) : t.cells.getD 3 .dead = .lit (.bool t.has) := by rw [Exp.cells_eq]; rfl
@[simp] theorem Exp.c4 (t : Exp) : t.cells.getD 4 .dead = .sl 5 (t.types.map Ty.cells) := by rw [Exp.cells_eq]; rfl
@[simp] theorem Exp.c5 (t : Exp) : t.cells.getD 5 .dead = .sl 1 (t.labels.map strC) := by rw [Exp.cells_eq]; rfl
@[simp] theorem Exp.c6 (t : Exp) : t.cells.getD 6 .dead = .sl 7 (t.kids.map Exp.cells) := by rw [Exp.cells_eq]; rfl
theorem Exp.re (t : Exp) : [t.cells.getD 0 .dead, t.cells.getD 1 .dead, t.cells.getD 2 .dead, t.cells.getD 3 .dead, t.cells.getD 4 .dead, t.cells.getD 5 .dead, t.cells.getD 6 .dead] = t.cells := by
  rw [Exp.cells_eq]; rfl
theorem Exp.refold (t : Exp) : [AV.lit (.int .i64 t.k), .lit (.int .i64 t.n), .lit (.string t.name), .lit (.bool t.has), .sl 5 (t.types.map Ty.cells), .sl 1 (t.labels.map strC), .sl 7 (t.kids.map Exp.cells)] = t.cells := (Exp.cells_eq t).symm

/- reading an expression back -/
mutual
def decXA : AV → Option (List Exp)
  | .sl 7 es => decXE es
  | _ => none
def decX : List AV → Option Exp
  | [] => none
  | a :: r => match a, r with
    | .lit (.int .i64 k), [.lit (.int .i64 n), .lit (.string s), .lit (.bool b), ts, .sl 1 ls, ks] => (decA ts).bind fun t => (decSs ls).bind fun l => (decXA ks).bind fun xs => some ⟨k, n, s, b, t, l, xs⟩
    | _, _ => none
def decXE : List (List AV) → Option (List Exp)
  | [] => some []
  | c :: r => (decX c).bind fun t => (decXE r).bind fun l => some (t :: l)
end
mutual
theorem decXA_ok : ∀ {a : AV} {l : List Exp}, decXA a = some l → a = .sl 7 (l.map Exp.cells)
  | .sl n es, l, h => by
    unfold decXA at h
    split at h
    · rename_i h1 h2; cases h2; rw [decXE_ok h]
    · cases h
  | .lit _, l, h => by unfold decXA at h; cases h
  | .agg _, l, h => by unfold decXA at h; cases h
  | .tup _, l, h => by unfold decXA at h; cases h
  | .hp _ _, l, h => by unfold decXA at h; cases h
  | .ro _, l, h => by unfold decXA at h; cases h
  | .fn _ _ _, l, h => by unfold decXA at h; cases h
  | .ifc _ _, l, h => by unfold decXA at h; cases h
  | .dead, l, h => by unfold decXA at h; cases h
theorem decX_ok : ∀ {c : List AV} {t : Exp}, decX c = some t → c = t.cells
  | [], t, h => by unfold decX at h; cases h
  | a :: r, t, h => by
    unfold decX at h
    split at h
    · rename_i k n s b ts ls ks
      rw [Option.bind_eq_some_iff] at h; obtain ⟨q, hq, h⟩ := h
      rw [Option.bind_eq_some_iff] at h; obtain ⟨l, hl, h⟩ := h
      rw [Option.bind_eq_some_iff] at h; obtain ⟨xs, hx, h⟩ := h
      have h := Option.some.inj h; subst h
      rw [Exp.cells_eq, decA_ok hq, decSs_ok hl, decXA_ok hx]
    · cases h
theorem decXE_ok : ∀ {es : List (List AV)} {l : List Exp}, decXE es = some l → es = l.map Exp.cells
  | [], l, h => by unfold decXE at h; cases h; rfl
  | c :: r, l, h => by
    unfold decXE at h
    rw [Option.bind_eq_some_iff] at h; obtain ⟨t, ht, h⟩ := h
    rw [Option.bind_eq_some_iff] at h; obtain ⟨m, hm, h⟩ := h
    have h := Option.some.inj h; subst h
    rw [decX_ok ht, decXE_ok hm]; rfl
end
mutual
theorem decX_cells : ∀ t : Exp, decX t.cells = some t
  | ⟨k, n, s, b, ts, ls, xs⟩ => by
    rw [Exp.cells, decX, decA, ← Ty.cellsL_map, decE_cells, decSs_map, decXA, decXE_cells xs]; rfl
theorem decXE_cells : ∀ l : List Exp, decXE (Exp.cellsL l) = some l
  | [] => by rw [Exp.cellsL, decXE]
  | t :: r => by
    rw [Exp.cellsL, decXE, decX_cells t, decXE_cells r]; rfl
end
mutual
def Exp.small : Exp → Bool
  | ⟨_, _, _, _, _, _, xs⟩ => Nat.ble xs.length 9223372036854775807 && Exp.smallL xs
def Exp.smallL : List Exp → Bool
  | [] => true
  | t :: r => t.small && Exp.smallL r
end
theorem Exp.small_eq (e : Exp) : e.small = (Nat.ble e.kids.length 9223372036854775807 && Exp.smallL e.kids) := by cases e; rw [Exp.small]
theorem Exp.smallL_get : ∀ {l : List Exp} {i : Nat} (hi : i < l.length), Exp.smallL l = true → l[i].small = true
  | t :: r, 0, hi, h => by rw [Exp.smallL, Bool.and_eq_true] at h; exact h.1
  | t :: r, i + 1, hi, h => by rw [Exp.smallL, Bool.and_eq_true] at h; exact Exp.smallL_get (l := r) (by simpa using hi) h.2
theorem Exp.size_kid {t : Exp} {i : Nat} (hi : i < t.kids.length) : SizeOf.sizeOf t.kids[i] < SizeOf.sizeOf t := by
  have := List.sizeOf_lt_of_mem (List.getElem_mem hi)
  cases t; simp only [Exp.mk.sizeOf_spec] at *; omega

/- no reference into the heap -/
theorem ltE_str (n : Nat) : ∀ l : List ByteArray, ltE n (l.map strC) = true
  | [] => rfl
  | s :: r => by rw [List.map_cons, ltE, ltE_str n r]; rfl
mutual
theorem Ty.ltL (n : Nat) : ∀ t : Ty, ltL n t.cells = true
  | ⟨k, m, s, ls, xs⟩ => by
    have h1 := Ty.ltE n xs
    have h2 := ltE_str n ls
    rw [Ty.cells]
    simp only [Sh.ltL, ltA, h1, h2, Bool.and_self]
theorem Ty.ltE (n : Nat) : ∀ l : List Ty, ltE n (Ty.cellsL l) = true
  | [] => rfl
  | t :: r => by rw [Ty.cellsL, Sh.ltE, Ty.ltL n t, Ty.ltE n r]; rfl
end
mutual
theorem Exp.ltL (n : Nat) : ∀ t : Exp, ltL n t.cells = true
  | ⟨k, m, s, b, ts, ls, xs⟩ => by
    have h1 := Exp.ltE n xs
    have h2 := ltE_str n ls
    have h3 := Ty.ltE n ts
    rw [Ty.cellsL_map] at h3
    rw [Exp.cells]
    simp only [Sh.ltL, ltA, h1, h2, h3, Bool.and_self]
theorem Exp.ltE (n : Nat) : ∀ l : List Exp, ltE n (Exp.cellsL l) = true
  | [] => rfl
  | t :: r => by rw [Exp.cellsL, Sh.ltE, Exp.ltL n t, Exp.ltE n r]; rfl
end
end Go.Sh.T

/- exp.Free: the names that nothing binds, gathered by closures; sorted and compacted by hand. -/
namespace Go.Sh.T
set_option maxRecDepth 1000000
set_option linter.unusedVariables false
set_option linter.unusedSimpArgs false
open Go Go.Sh Go.Proofs

theorem lt_mono {n m : Nat} (hn : n ≤ m) {a : AV} (h : AV.lt n a) : AV.lt m a := by
  induction h with
  | lit v => exact .lit v
  | agg _ ih => exact .agg ih
  | tup _ ih => exact .tup ih
  | sl k _ ih => exact .sl k ih
  | hp off h => exact .hp off (Nat.lt_of_lt_of_le h hn)
  | ro _ ih => exact .ro ih
  | fn f _ _ ih ih' => exact .fn f ih ih'
  | ifc t _ ih => exact .ifc t ih
  | dead => exact .dead
theorem evw_sound {E : Env} (ok : E.Ok) (hp : PrimsOk E) (hc : PrimsC E) : SoundC E.P (evw E) := fun f args h out h' e => by
  obtain ⟨k, e⟩ := (evw_iff hc).1 e
  exact ev_ok ok hp k f args h out h' e

def eqS' (x y : ByteArray) : Bool := x.toList == y.toList
mutual
/-- The names that are gathered, in their order. -/
def Exp.free : Exp → (ByteArray → Bool) → List ByteArray
  | ⟨k, n, s, b, ts, ls, xs⟩, B => (bif k == 4 && !B s then [s] else []) ++ Exp.freeK (k == 5) (fun x => eqS' x s || B x) xs 0 (bif k == 4 then B else bif k == 7 then (fun x => eqS' x s || B x) else B)
def Exp.freeK (lt : Bool) (B' : ByteArray → Bool) : List Exp → Nat → (ByteArray → Bool) → List ByteArray
  | [], _, _ => []
  | x :: r, i, B => x.free (bif lt && Nat.beq i 1 then B' else B) ++ Exp.freeK lt B' r (i + 1) (bif lt && Nat.beq i 1 then B' else B)
end
theorem Exp.free_eq (e : Exp) (B : ByteArray → Bool) : e.free B = (bif e.k == 4 && !B e.name then [e.name] else []) ++ Exp.freeK (e.k == 5) (fun x => eqS' x e.name || B x) e.kids 0 (bif e.k == 4 then B else bif e.k == 7 then (fun x => eqS' x e.name || B x) else B) := by cases e; rw [Exp.free]

namespace FR
theorem primsC : PrimsC E := by
  intro f p hf
  have hf : lkN ([] : List (Nat × ((Nat → List AV → Heap → R) → List AV → Heap → R))) f = some p := hf
  cases hf
theorem primsOk : PrimsOk E := by
  intro f p hf
  have hf : lkN ([] : List (Nat × ((Nat → List AV → Heap → R) → List AV → Heap → R))) f = some p := hf
  cases hf
abbrev O (acc : List ByteArray) : List Cell := [.own 1 (acc.map strC)]
def Clo (z : Heap) : Prop := ∀ cs ∈ z, ∀ c ∈ cs, c.get.lt (z.length + 1)
def BoundOk (bv : AV) (B : ByteArray → Bool) (z : Heap) : Prop := ∀ acc z' s, applyV (evw E) bv [.lit (.string s)] (O acc :: (z ++ z')) = some (.ret (.lit (.bool (B s))), O acc :: (z ++ z'))
theorem applyS (F : Nat → List AV → Heap → R) (f : Nat) (caps args : List AV) (h : Heap) : applyV F (.fn f [] caps) args h = F f ([] ++ args ++ caps) h := (Eq.refl _).trans rfl
theorem bound51 (z : Heap) : BoundOk (.fn 51 [] []) (fun _ => false) z := fun acc z' s => by
  rw [applyS]
  show evw E 51 [.lit (.string s)] _ = _
  refine evw_run primsC 0 rfl rfl rfl ?_
  rw [nf51]
theorem strO_lt (n : Nat) (acc : List ByteArray) : ∀ c ∈ O acc, c.get.lt n := fun c hc => by
  rw [List.mem_singleton.1 hc]
  exact lt_mono (Nat.zero_le _) (HE.K.strs_lt acc)
theorem put52 (z : Heap) (acc : List ByteArray) (s : ByteArray) (hm : acc.length + 1 ≤ maxApp) : applyV (evw E) (.fn 52 [] [.hp 0 0]) [.lit (.string s)] (O acc :: z) = some (.ret (.tup []), O (acc ++ [s]) :: z) := by
  rw [applyS]
  show evw E 52 [.lit (.string s), .hp 0 0] _ = _
  refine evw_run primsC 0 rfl rfl rfl ?_
  rw [nf52]
  have e1 : htake (O acc :: z) 0 0 = some ((1, acc.map strC), [.v .dead] :: z) := rfl
  rw [e1, bind_some', show AV.one (.lit (.string s)) = true from rfl, condT, show (Nat.beq 1 1 && Nat.ble ((acc.map strC).length + ([[.lit (.string s)]] : List (List AV)).length) maxApp) = true from by rw [show Nat.beq 1 1 = true from rfl, Bool.true_and, Nat.ble_eq, List.length_map]; exact hm, condT]
  rw [show hstore ([.v .dead] :: z) 0 0 [.own 1 (acc.map strC ++ [[.lit (.string s)]])] = some ([.own 1 (acc.map strC ++ [[.lit (.string s)]])] :: z) from rfl, bind_some', O, List.map_append]
  rfl
/-- The closure that knows one name more. -/
theorem bound84 (e : Exp) (z : Heap) (bv : AV) (B : ByteArray → Bool) (hb : BoundOk bv B z) : BoundOk (.fn 84 [] [.hp (z.length + 1) 0, .hp (z.length + 2) 0]) (fun x => eqS' x e.name || B x) (z ++ [e.cells.map .v, [.v bv]]) := fun acc z' s => by
  rw [applyS]
  show evw E 84 [.lit (.string s), .hp (z.length + 1) 0, .hp (z.length + 2) 0] _ = _
  refine evw_run primsC 0 rfl rfl rfl ?_
  rw [nf84]
  have e0 : O acc :: (z ++ [e.cells.map .v, [.v bv]] ++ z') = (O acc :: z) ++ (e.cells.map .v :: [.v bv] :: z') := by simp
  have e1 : hpart false 1 2 (z.length + 1) (O acc :: (z ++ [e.cells.map .v, [.v bv]] ++ z')) = some (.lit (.string e.name)) := by
    rw [e0, show z.length + 1 = (O acc :: z).length from rfl, hpart_app0, Exp.cells_eq]; rfl
  have e2 : hpart false 1 0 (z.length + 2) (O acc :: (z ++ [e.cells.map .v, [.v bv]] ++ z')) = some bv := by
    rw [e0, show z.length + 2 = (O acc :: z).length + 1 from rfl, hpart_app]; rfl
  rw [e1, bind_some', show binAV E .eql 9 (.lit (.string s)) (.lit (.string e.name)) = some (.lit (.bool (eqS' s e.name))) from (Eq.refl _).trans rfl, bind_some', boolB, bind_some']
  cases h : eqS' s e.name with
  | true => rw [condT]; show _ = some (Out.ret (.lit (.bool (eqS' s e.name || B s))), _); rw [h]; rfl
  | false =>
    show _ = some (Out.ret (.lit (.bool (eqS' s e.name || B s))), _)
    rw [condF, e2, bind_some', List.append_assoc, hb acc _ s, onOut_ret, h]
    rfl
theorem ltC_cells (n : Nat) (e : Exp) : ∀ c ∈ e.cells.map Cell.v, c.get.lt n := fun c hc => by
  obtain ⟨a, ha, rfl⟩ := List.mem_map.1 hc
  exact ltL_ok (Exp.ltL n e) a ha
theorem clo_more {z : Heap} (h : Clo z) (e : Exp) {bv : AV} (hb : bv.lt (z.length + 1)) : Clo (z ++ [e.cells.map .v, [.v bv]]) := by
  intro cs hcs c hc
  rw [List.length_append]
  rcases List.mem_append.1 hcs with k | k
  · exact lt_mono (by omega) (h cs k c hc)
  · rcases List.mem_cons.1 k with k | k
    · subst k; exact ltC_cells _ e c hc
    · rw [List.mem_singleton] at k; subst k
      rw [List.mem_singleton] at hc; subst hc
      exact lt_mono (by omega) hb
theorem lenA24' (es : List (List AV)) : lenA E 24 (.sl 7 es) = some (es.length : Int) := (Eq.refl _).trans (by kernel_rfl)
theorem trunc50 {z : Heap} (hz : Clo z) (acc acc' : List ByteArray) (x : Heap) : trunc (E.hint 50) (O acc :: z) (.ret (.tup [])) (O acc' :: (z ++ x)) = some (.ret (.tup []), O acc' :: z) := by
  have e : (O acc' :: (z ++ x)).take (O acc :: z).length = O acc' :: z := by
    show List.take (z.length + 1) _ = _
    rw [List.take_succ_cons, List.take_left]
  have := trunc_of (H := E.hint 50) (h := O acc :: z) (h' := O acc' :: (z ++ x)) (out := .ret (.tup [])) (by kernel_rfl) ⟨AV.lt.tup (fun _ h => by cases h), by simp, .inr (by
    rw [e]
    intro cs hcs c hc
    rcases List.mem_cons.1 hcs with k | k
    · subst k; exact strO_lt _ acc' c hc
    · exact hz cs k c hc)⟩
  rw [this, e]

theorem free50 : ∀ (e : Exp), e.small = true → ∀ (z : Heap) (bv : AV) (B : ByteArray → Bool) (acc : List ByteArray), Clo z → bv.lt (z.length + 1) → AV.one bv = true → BoundOk bv B z → acc.length + (e.free B).length ≤ maxApp →
    evw E 50 [.agg e.cells, bv, .fn 52 [] [.hp 0 0]] (O acc :: z) = some (.ret (.tup []), O (acc ++ e.free B) :: z)
  | e, hs, z, bv, B, acc, hz, hbl, hb1, hB, hm => by
    rw [Exp.small_eq, Bool.and_eq_true] at hs
    have hk : e.kids.length ≤ 9223372036854775807 := Nat.le_of_ble_eq_true hs.1
    obtain ⟨z2, hz2⟩ : ∃ z2, z2 = z ++ [e.cells.map .v, [.v bv]] := ⟨_, rfl⟩
    have cz2 : Clo z2 := by rw [hz2]; exact clo_more hz e hbl
    have l2 : z2.length = z.length + 2 := by rw [hz2]; simp
    obtain ⟨cl, hcl⟩ : ∃ cl : AV, cl = .fn 84 [] [.hp (z.length + 1) 0, .hp (z.length + 2) 0] := ⟨_, rfl⟩
    have clB : BoundOk cl (fun x => eqS' x e.name || B x) z2 := by rw [hcl, hz2]; exact bound84 e z bv B hB
    have cll : cl.lt (z2.length + 1) := by
      rw [hcl]
      refine .fn _ (fun _ h => by cases h) fun a ha => ?_
      rcases List.mem_cons.1 ha with k | k
      · subst k; exact .hp _ (by omega)
      · rw [List.mem_singleton] at k; subst k; exact .hp _ (by omega)
    have hB2 : BoundOk bv B z2 := fun acc z' s => by rw [hz2, List.append_assoc]; exact hB acc _ s
    have hat : ∀ (acc' : List ByteArray) (ag : Bool) (n off : Nat), hpart ag n off (z.length + 1) (O acc' :: z2) = hpart ag n off 0 [e.cells.map .v, [.v bv]] := fun acc' ag n off => by
      rw [hz2, show O acc' :: (z ++ [e.cells.map .v, [.v bv]]) = (O acc' :: z) ++ [e.cells.map .v, [.v bv]] from rfl, show z.length + 1 = (O acc' :: z).length from rfl, hpart_app0]
    have h0 : ∀ acc', hpart false 1 0 (z.length + 1) (O acc' :: z2) = some (.lit (.int .i64 e.k)) := fun acc' => by rw [hat, Exp.cells_eq]; rfl
    have hnm : ∀ acc', hpart false 1 2 (z.length + 1) (O acc' :: z2) = some (.lit (.string e.name)) := fun acc' => by rw [hat, Exp.cells_eq]; rfl
    have hks : ∀ acc', hpart false 1 6 (z.length + 1) (O acc' :: z2) = some (.sl 7 (e.kids.map Exp.cells)) := fun acc' => by rw [hat, Exp.cells_eq]; rfl
    have loop : ∀ (q i : Nat) (bx : AV) (Bx : ByteArray → Bool) (acc' : List ByteArray), i ≤ e.kids.length → e.kids.length < q + i → bx.lt (z2.length + 1) → AV.one bx = true → BoundOk bx Bx z2 → acc'.length + (Exp.freeK (e.k == 5) (fun x => eqS' x e.name || B x) (e.kids.drop i) i Bx).length ≤ maxApp →
        Lp50_0 (evw E) (e.kids.length + 1) (O acc :: z) q (O acc' :: z2) bx (.fn 52 [] [.hp 0 0]) (z.length + 1) (z.length + 1) (z.length + 2) (.sl 7 (e.kids.map Exp.cells)) (.lit (.int .i64 (e.kids.length : Int))) (.lit (.int .i64 (i : Int))) = some (.ret (.tup []), O (acc' ++ Exp.freeK (e.k == 5) (fun x => eqS' x e.name || B x) (e.kids.drop i) i Bx) :: z) := by
      intro q
      induction q with
      | zero => intro i bx Bx acc' h1 h2; omega
      | succ q ih =>
        intro i bx Bx acc' h1 h2 hxl hx1 hxB hmm
        rw [Lp50_0_succ, bin_int, lssI, bind_some', boolB, bind_some']
        by_cases hi : i < e.kids.length
        · rw [ltT hi, condT, indexA_map _ _ _ _ hi, bind_some', partA_full (Exp.cells_len _), bind_some', aggS, bind_some', Exp.cells_len, show Nat.beq 7 7 = true from rfl, condT, h0, bind_some', bin_int, eqlI, bind_some', boolB, bind_some', Exp.re]
          rw [List.drop_eq_getElem_cons hi, Exp.freeK, List.length_append] at hmm
          rw [List.drop_eq_getElem_cons hi, Exp.freeK]
          have hsm := Exp.smallL_get hi hs.2
          have step : ∀ (by' : AV) (By' : ByteArray → Bool), by'.lt (z2.length + 1) → AV.one by' = true → BoundOk by' By' z2 → acc'.length + ((e.kids[i].free By').length + (Exp.freeK (e.k == 5) (fun x => eqS' x e.name || B x) (e.kids.drop (i + 1)) (i + 1) By').length) ≤ maxApp →
              onOut (evw E 50 [.agg e.kids[i].cells, by', .fn 52 [] [.hp 0 0]] (O acc' :: z2)) (fun a34 h35 => (binAV E .add 3 (.lit (.int .i64 (i : Int))) (.lit (.int .i64 1))).bind fun r36 => Lp50_0 (evw E) (e.kids.length + 1) (O acc :: z) q h35 by' (.fn 52 [] [.hp 0 0]) (z.length + 1) (z.length + 1) (z.length + 2) (.sl 7 (e.kids.map Exp.cells)) (.lit (.int .i64 (e.kids.length : Int))) r36) (fun _ _ _ => none) (fun _ _ => none) =
              some (.ret (.tup []), O (acc' ++ (e.kids[i].free By' ++ Exp.freeK (e.k == 5) (fun x => eqS' x e.name || B x) (e.kids.drop (i + 1)) (i + 1) By')) :: z) := by
            intro by' By' k1 k2 k3 k4
            have hrec := free50 e.kids[i] hsm z2 by' By' acc' cz2 k1 k2 k3 (by omega)
            rw [hrec, onOut_ret, bin_int, addI, bind_some', incI (by omega), ih (i + 1) by' By' _ hi (by omega) k1 k2 k3 (by rw [List.length_append]; omega), List.append_assoc]
          cases h5 : e.k == 5 with
          | true =>
            rw [condT, bin_int, eqlI, bind_some', boolB, bind_some']
            by_cases h11 : i = 1
            · subst h11
              rw [show (((1 : Nat) : Int) == 1) = true from rfl, condT]
              rw [h5] at hmm step
              simp only [show Nat.beq 1 1 = true from rfl, Bool.true_and, cond_true] at hmm ⊢
              rw [← hcl]
              exact step cl _ cll (by rw [hcl]; rfl) clB hmm
            · rw [show ((i : Int) == 1) = false from by rw [beq_eq_false_iff_ne]; omega, condF]
              rw [h5] at hmm step
              have hb : Nat.beq i 1 = false := by cases hh : Nat.beq i 1 with | false => rfl | true => exact absurd (Nat.eq_of_beq_eq_true hh) h11
              simp only [hb, Bool.and_false, cond_false] at hmm ⊢
              exact step bx Bx hxl hx1 hxB hmm
          | false =>
            rw [condF]
            rw [h5] at hmm step
            simp only [Bool.false_and, cond_false] at hmm ⊢
            exact step bx Bx hxl hx1 hxB hmm
        · rw [ltF hi, condF, List.drop_of_length_le (by omega), Exp.freeK, List.append_nil, hz2]
          exact trunc50 hz acc acc' _
    refine evw_run primsC (e.kids.length + 1) rfl rfl rfl ?_
    rw [nf50, aggS, bind_some', Exp.cells_len, show Nat.beq 7 7 = true from rfl, condT, hb1, condT]
    have hst : hstore (((O acc :: z) ++ ([[.v (e.cells.getD 0 .dead), .v (e.cells.getD 1 .dead), .v (e.cells.getD 2 .dead), .v (e.cells.getD 3 .dead), .v (e.cells.getD 4 .dead), .v (e.cells.getD 5 .dead), .v (e.cells.getD 6 .dead)]] : Heap)) ++ ([[.v (.lit .nilFunc)]] : Heap)) (((O acc :: z) ++ ([[.v (e.cells.getD 0 .dead), .v (e.cells.getD 1 .dead), .v (e.cells.getD 2 .dead), .v (e.cells.getD 3 .dead), .v (e.cells.getD 4 .dead), .v (e.cells.getD 5 .dead), .v (e.cells.getD 6 .dead)]] : Heap))).length 0 [.v bv] = some (O acc :: z2) := by
      rw [hstore_app0]
      have : hstore ([[.v (.lit .nilFunc)]] : Heap) 0 0 [.v bv] = some [[.v bv]] := rfl
      rw [this, Option.map_some, hz2]
      have hc : [Cell.v (e.cells.getD 0 .dead), .v (e.cells.getD 1 .dead), .v (e.cells.getD 2 .dead), .v (e.cells.getD 3 .dead), .v (e.cells.getD 4 .dead), .v (e.cells.getD 5 .dead), .v (e.cells.getD 6 .dead)] = e.cells.map .v := by
        conv => rhs; rw [← Exp.re e]
        rfl
      rw [hc]; simp
    rw [hst, bind_some', show (O acc :: z).length = z.length + 1 from rfl, show (((O acc :: z) ++ ([[.v (e.cells.getD 0 .dead), .v (e.cells.getD 1 .dead), .v (e.cells.getD 2 .dead), .v (e.cells.getD 3 .dead), .v (e.cells.getD 4 .dead), .v (e.cells.getD 5 .dead), .v (e.cells.getD 6 .dead)]] : Heap))).length = z.length + 2 from by simp, h0, bind_some', bin_int, eqlI, bind_some', boolB, bind_some']
    rw [Exp.free_eq, List.length_append] at hm
    rw [Exp.free_eq]
    have fin := fun bx Bx acc' hxl hx1 hxB hmm => loop (e.kids.length + 1) 0 bx Bx acc' (Nat.zero_le _) (by omega) hxl hx1 hxB hmm
    rw [show ((0 : Nat) : Int) = 0 from rfl, List.drop_zero] at fin
    have hbl2 : bv.lt (z2.length + 1) := lt_mono (by omega) hbl
    cases h4 : e.k == 4 with
    | true =>
      have h0' := hB2 acc [] e.name
      rw [List.append_nil] at h0'
      rw [condT, hnm, bind_some', h0', onOut_ret, notB, bind_some', boolB, bind_some']
      rw [h4] at hm
      cases hBn : B e.name with
      | false =>
        rw [hBn] at hm
        simp only [Bool.not_false, Bool.and_self, cond_true, List.length_singleton] at hm ⊢
        rw [hnm, bind_some', put52 z2 acc e.name (by omega), onOut_ret, hks, bind_some', lenA24', bind_some', List.length_map, fin bv B _ hbl2 hb1 hB2 (by rw [List.length_append, List.length_singleton]; omega), List.append_assoc]
      | true =>
        rw [hBn] at hm
        simp only [Bool.not_true, Bool.and_false, cond_false, cond_true, List.length_nil, List.nil_append, Nat.zero_add] at hm ⊢
        rw [hks, bind_some', lenA24', bind_some', List.length_map, fin bv B _ hbl2 hb1 hB2 hm]
    | false =>
      rw [condF, bin_int, eqlI, bind_some', boolB, bind_some']
      rw [h4] at hm
      simp only [Bool.false_and, cond_false, List.length_nil, List.nil_append, Nat.zero_add] at hm ⊢
      cases h7 : e.k == 7 with
      | true =>
        rw [h7] at hm
        simp only [cond_true] at hm ⊢
        rw [hks, bind_some', lenA24', bind_some', List.length_map, ← hcl, fin cl _ _ cll (by rw [hcl]; rfl) clB hm]
      | false =>
        rw [h7] at hm
        simp only [cond_false] at hm ⊢
        rw [hks, bind_some', lenA24', bind_some', List.length_map, fin bv B _ hbl2 hb1 hB2 hm]
  termination_by e => SizeOf.sizeOf e
  decreasing_by exact Exp.size_kid hi
end FR
end Go.Sh.T

/- exp.Free as one step. -/
namespace Go.Sh.T
set_option maxRecDepth 1000000
set_option linter.unusedVariables false
set_option linter.unusedSimpArgs false
open Go Go.Sh Go.Proofs

namespace FR
open W26 (pL pR)
noncomputable def body : Code := Try.f22.body.getD .skip
noncomputable def A := pL body
noncomputable def A2 := pL (pR body)
noncomputable def A3 := pL (pR (pR body))
noncomputable def rest := pR (pR (pR body))
abbrev HH : FHint := { hb := [3], hp := [3] }
abbrev hpS (i : Nat) : Slot := .c (.v (.hp i 0))
section
variable (q0 q1 q2 q3 q4 q5 q6 : AV) (h : Heap) (F : Nat → List AV → Heap → R)
theorem kA : evC E HH Try.f22.ntmps F 0 A 0 { s := lkS (argSlots 0 [.agg [q0, q1, q2, q3, q4, q5, q6]]), h := h } (kL [1]) kN = some ([(1, .loc ([q0, q1, q2, q3, q4, q5, q6].map .v))], h) := by kernel_rfl
theorem kA2 : evC E HH Try.f22.ntmps F 0 A2 0 { s := lkS [(1, .loc ([q0, q1, q2, q3, q4, q5, q6].map .v))], h := h } (kL [1, 3]) kN = some ([(1, .loc ([q0, q1, q2, q3, q4, q5, q6].map .v)), (3, hpS h.length)], h ++ ([[.own 1 []]] : Heap)) := by kernel_rfl
theorem kA3 (i : Nat) : evC E HH Try.f22.ntmps F 0 A3 0 { s := lkS [(1, .loc ([q0, q1, q2, q3, q4, q5, q6].map .v)), (3, hpS i)], h := h } (kL [3]) kN = onOut (F 50 [.agg [q0, q1, q2, q3, q4, q5, q6], .fn 51 [] [], .fn 52 [] [.hp i 0]] h) (fun a h' => some ([(3, hpS i)], h')) (fun _ _ _ => none) (fun _ _ => none) := by kernel_rfl
end
theorem ends (e : Exp) (hs : e.small = true) (hm : (e.free fun _ => false).length ≤ maxApp) (hh : Heap) : Ends Try.prog 22 [.agg e.cells] hh (.ret (.sl 1 ((riseL (e.free fun _ => false)).map strC))) hh := by
  refine lone (callable Try.func22 (by kernel_rfl) rfl) (fun a ha => by rw [List.mem_singleton.1 ha]; exact .agg (ltL_ok (Exp.ltL 0 e))) (HE.K.strs_lt _) (fun w argv hr => ?_) hh
  have hsd : SoundC E.P (evw E) := evw_sound okE primsOk primsC
  have h1 := kA (e.cells.getD 0 .dead) (e.cells.getD 1 .dead) (e.cells.getD 2 .dead) (e.cells.getD 3 .dead) (e.cells.getD 4 .dead) (e.cells.getD 5 .dead) (e.cells.getD 6 .dead) [] (evw E)
  have h2 := kA2 (e.cells.getD 0 .dead) (e.cells.getD 1 .dead) (e.cells.getD 2 .dead) (e.cells.getD 3 .dead) (e.cells.getD 4 .dead) (e.cells.getD 5 .dead) (e.cells.getD 6 .dead) [] (evw E)
  have h3 := kA3 (e.cells.getD 0 .dead) (e.cells.getD 1 .dead) (e.cells.getD 2 .dead) (e.cells.getD 3 .dead) (e.cells.getD 4 .dead) (e.cells.getD 5 .dead) (e.cells.getD 6 .dead) ([] ++ ([[.own 1 []]] : Heap)) (evw E) 0
  rw [Exp.re] at h1 h2 h3
  have hfr := free50 e hs [] (.fn 51 [] []) (fun _ => false) [] (fun _ h => by cases h) (.fn _ (fun _ h => by cases h) (fun _ h => by cases h)) rfl (bound51 []) (by simpa using hm)
  rw [show ([] ++ ([[.own 1 []]] : Heap)) = O [] :: [] from rfl, hfr, onOut_ret] at h3
  have hal : argv.size = 1 := by have := hr.length; simpa using this.symm
  refine calls_of_wp Try.func22 (by rfl : Try.f22.body = some (.seq A (.seq A2 (.seq A3 rest)))) ?_
  refine (wpIn_wide (n := 0)).1 ?_
  have hat : AtSt 0 Try.f22.ntmps (sealAll w) w { s := lkS (argSlots 0 [.agg e.cells]), h := [] } { tmps := argv ++ Array.replicate (Try.f22.ntmps - argv.size) undef, defers := [] } w := by
    refine ⟨sealAll w, ⟨fun i => ?_, fun u t off hu => ?_, heap_all w, within_all w⟩, by rw [Array.size_append, Array.size_replicate, hal]; rfl, Fr.refl 0 _ w⟩
    · rcases lkS_spec (argSlots 0 [.agg e.cells]) i with e1 | e1
      · show RepSlot _ _ _ _ (lkS _ _) _
        rw [e1]; trivial
      · refine argSlots_spec [.agg e.cells] 0 argv.toList hr (fun j x hj => ?_) _ e1
        have hj' : j < argv.size := by simpa using (List.getElem?_eq_some_iff.1 hj).1
        rw [Nat.zero_add, Array.getD_eq_getD_getElem?, Array.getElem?_append_left hj', ← Array.getElem?_toList, hj]; rfl
    · exfalso
      have hu : lkS (argSlots 0 [.agg e.cells]) u = .path t off := hu
      rcases lkS_spec (argSlots 0 [.agg e.cells]) u with e1 | e1
      · rw [e1] at hu; cases hu
      · rw [hu] at e1; simp [argSlots] at e1
  refine wpIn_seq (seg_keep (ro := none) (nn := 0) (H := HH) okE hsd [1] h1 hat rfl fun a1 w1 hat1 hd1 => ?_)
  refine wpIn_seq (seg_keep (H := HH) okE hsd [1, 3] h2 hat1 hd1 fun a1 w1 hat1 hd1 => ?_)
  refine wpIn_seq (seg_keep (H := HH) okE hsd [3] h3 hat1 hd1 fun a3 w3 hat3 hd3 => ?_)
  obtain ⟨G3, r3, n3, f3⟩ := hat3
  rw [List.nil_append] at r3
  obtain ⟨bo, arr, T, x, k1, k2, k3, k4, k5, k6⟩ := own_out f3 r3 (t := 3) (i := 0) rfl (l := e.free fun _ => false) rfl
  have hb : rest = .seq (pL rest) .ret := by rfl
  rw [hb]
  refine wpIn_seq ?_
  change (Code.region _ (SET.opsOf (pL rest)) false).wpIn _ _ _ _ _ _
  have hml : (e.free fun _ => false).length < 4611686018427387904 := Nat.lt_of_le_of_lt hm (by decide)
  refine tail3 (i0 := (SET.opsOf (pL rest)).getD 0 default) (i1 := (SET.opsOf (pL rest)).getD 1 default) (i2 := (SET.opsOf (pL rest)).getD 2 default) (p := 3) (t := 7) (u := 8) (r := 2) rfl rfl rfl rfl rfl rfl rfl rfl rfl ⟨_, rfl, rfl, rfl⟩ rfl rfl rfl (by rw [n3]; decide) (by rw [n3]; decide) (by rw [n3]; decide) k1 k3 k4 k5 hml ?_
  intro a' w' v j1 j2 j3 j4 j5
  refine wpIn_ret ?_
  exact ⟨by rw [j2, hd3], v, res_tmp (r := 2) rfl j1, lone_end f3 j5 (fun b hb => (k6 b hb).1) j3 (fun b hb => (k6 b (j4 b hb)).1)⟩
end FR
def p22 : (Nat → List AV → Heap → R) → List AV → Heap → R := fun _ args h => match args with
  | [.agg cs] => (decX cs).bind fun e => bif e.small && Nat.ble (e.free fun _ => false).length maxApp then some (.ret (.sl 1 ((riseL (e.free fun _ => false)).map strC)), h) else none
  | _ => none
theorem p22_ok (call : Nat → List AV → Heap → R) (args : List AV) (h : Heap) (out : Out) (h' : Heap) (e : p22 call args h = some (out, h')) : Ends Try.prog 22 args h out h' := by
  unfold p22 at e
  split at e
  · rw [Option.bind_eq_some_iff] at e; obtain ⟨x, hx, e⟩ := e
    obtain ⟨hc, e⟩ := condE e
    rw [Bool.and_eq_true] at hc
    have e := Option.some.inj e; cases e
    rw [decX_ok hx]
    exact FR.ends x hc.1 (Nat.le_of_ble_eq_true hc.2) _
  · cases e
end Go.Sh.T

/- exp.distinct: names told once, by a map. -/
namespace Go.Sh.T
set_option maxRecDepth 100000
set_option linter.unusedVariables false
set_option linter.unusedSimpArgs false
open Go Go.Sh Go.Proofs

namespace DI
open W26 (pL pR)
def opsOf : Code → Array Oper
  | .region _ ops _ => ops
  | _ => #[]
noncomputable def body : Code := Try.f60.body.getD .skip
noncomputable def c0 := pL body
noncomputable def c1 := pL (pR body)
noncomputable def c2 := pL (pL (pR (pR body)))
noncomputable def blk := pR (pL (pR (pR body)))
noncomputable def lp := pL (pL blk)
noncomputable def c3 := pL lp
noncomputable def cR := pR (pR lp)
noncomputable def b1 := pL (pL cR)
noncomputable def c4 := pL b1
noncomputable def c5 := pL (pL (pR b1))
noncomputable def cc := pR (pL (pR b1))
noncomputable def c6 := pL (pL cc)
noncomputable def c7 := pR (pR b1)
noncomputable def c8 := pR cR
noncomputable def c9 := pL (pR (pR (pR body)))
noncomputable def o1 (i : Nat) : Oper := (opsOf c1).getD i default
noncomputable def o5 (i : Nat) : Oper := (opsOf c5).getD i default
noncomputable def o7 (i : Nat) : Oper := (opsOf c7).getD i default
abbrev iv (n : Int) : Slot := .c (.v (.lit (.int .i64 n)))
abbrev bv (b : Bool) : Slot := .c (.v (.lit (.bool b)))
abbrev sv (s : ByteArray) : Slot := .c (.v (.lit (.string s)))
abbrev mv (q : Nat) : Slot := .c (.v (.lit (.map (some q))))
abbrev psv (es : List (List AV)) : Slot := .c (.v (.sl 6 es))
abbrev fv (f : Nat) : Slot := .c (.v (.fn f [] []))
abbrev HH : FHint := { base := [(18, 9), (24, 9), (30, 9)] }
abbrev LL (es : List (List AV)) (m : Int) (f q : Nat) (n i : Int) : List (Nat × Slot) := [(0, psv es), (1, iv m), (2, fv f), (7, mv q), (11, psv es), (12, iv n), (13, iv i)]
section
variable (es : List (List AV)) (m : Int) (f q : Nat) (n i : Int) (h : Heap) (F : Nat → List AV → Heap → R)
theorem k0 : evC E0 HH Try.f60.ntmps F 0 c0 0 { s := lkS (argSlots 0 [.sl 6 es, .lit (.int .i64 m), .fn f [] []]), h := h } (kL [0, 1, 2]) kN = some ([(0, psv es), (1, iv m), (2, fv f)], h) := by kernel_rfl
theorem k1 : opsK E0 HH Try.f60.ntmps F (opsOf c1) [(1, o1 1)] { s := upd (lkS [(0, psv es), (1, iv m), (2, fv f)]) 10 (mv q), h := h } (kLs [0, 1, 2, 7]) kN = some ([(0, psv es), (1, iv m), (2, fv f), (7, mv q)], h) := by kernel_rfl
theorem k2 : evC E0 HH Try.f60.ntmps F 0 c2 0 { s := lkS [(0, psv es), (1, iv m), (2, fv f), (7, mv q)], h := h } (kL [0, 1, 2, 7, 11, 12, 13]) kN = (lenA E0 39 (.sl 6 es)).bind fun n => some (LL es m f q n 0, h) := by kernel_rfl
theorem k3 : evC E0 HH Try.f60.ntmps F 0 c3 0 { s := lkS (LL es m f q n i), h := h } (kL [0, 1, 2, 7, 11, 12, 13, 14]) kN = some (LL es m f q n i ++ [(14, bv (decide (i < n)))], h) := by kernel_rfl
theorem k4 (x : Slot) : evC E0 HH Try.f60.ntmps F 0 c4 0 { s := lkS (LL es m f q n i ++ [(14, x)]), h := h } (kL [0, 1, 2, 7, 11, 12, 13, 9]) kN =
    (indexA 6 (.sl 6 es) (.lit (.int .i64 i))).bind fun e => (partA true 6 0 e).bind fun v => (aggOf v).bind fun l => cond (Nat.beq l.length 6) (some (LL es m f q n i ++ [(9, .loc [.v (l.getD 0 .dead), .v (l.getD 1 .dead), .v (l.getD 2 .dead), .v (l.getD 3 .dead), .v (l.getD 4 .dead), .v (l.getD 5 .dead)])], h)) none := by kernel_rfl
variable (s : ByteArray) (q1 q2 q3 q4 q5 : AV)
abbrev L9 : List (Nat × Slot) := LL es m f q n i ++ [(9, .loc ([.lit (.string s), q1, q2, q3, q4, q5].map .v))]
theorem k5 : opsK E0 HH Try.f60.ntmps F (opsOf c5) [(0, o5 0), (1, o5 1), (2, o5 2)] { s := lkS (L9 es m f q n i s q1 q2 q3 q4 q5), h := h } (kLs [0, 1, 2, 7, 11, 12, 13, 9, 17, 19]) kN = some (L9 es m f q n i s q1 q2 q3 q4 q5 ++ [(17, mv q), (19, sv s)], h) := by kernel_rfl
abbrev L19 (c : Int) : Nat → Slot := upd (lkS (L9 es m f q n i s q1 q2 q3 q4 q5 ++ [(17, mv q), (19, sv s)])) 20 (iv c)
theorem k5t : opsK E0 HH Try.f60.ntmps F (opsOf c5) [(4, o5 4), (5, o5 5), (6, o5 6), (7, o5 7), (8, o5 8), (9, o5 9), (10, o5 10), (11, o5 11)] { s := L19 es m f q n i s q1 q2 q3 q4 q5 1, h := h } (kLs [0, 1, 2, 7, 11, 12, 13, 9, 28]) kN = some (L9 es m f q n i s q1 q2 q3 q4 q5 ++ [(28, bv true)], h) := by kernel_rfl
theorem k5f : opsK E0 HH Try.f60.ntmps F (opsOf c5) [(4, o5 4), (5, o5 5), (6, o5 6), (7, o5 7), (8, o5 8), (9, o5 9), (10, o5 10), (11, o5 11)] { s := L19 es m f q n i s q1 q2 q3 q4 q5 0, h := h } (kLs [0, 1, 2, 7, 11, 12, 13, 9, 28]) kN =
    onOut (applyV F (.fn f [] []) [.lit (.string s)] h) (fun a h' => (unAV .not a).bind fun r => some (L9 es m f q n i s q1 q2 q3 q4 q5 ++ [(28, .c (.v r))], h')) (fun _ _ _ => none) (fun _ _ => none) := by kernel_rfl
theorem k6 (x : Slot) : evC E0 HH Try.f60.ntmps F 0 c6 0 { s := lkS (L9 es m f q n i s q1 q2 q3 q4 q5 ++ [(28, x)]), h := h } (kL [6]) kN = some ([(6, bv false)], h) := by kernel_rfl
theorem k7 (x : Slot) : opsK E0 HH Try.f60.ntmps F (opsOf c7) [(0, o7 0), (1, o7 1), (2, o7 2)] { s := lkS (L9 es m f q n i s q1 q2 q3 q4 q5 ++ [(28, x)]), h := h } (kLs [0, 1, 2, 7, 11, 12, 13, 29, 31]) kN = some (LL es m f q n i ++ [(29, mv q), (31, sv s)], h) := by kernel_rfl
theorem k7b (c : Int) : opsK E0 HH Try.f60.ntmps F (opsOf c7) [(4, o7 4)] { s := upd (lkS (LL es m f q n i ++ [(29, mv q), (31, sv s)])) 32 (iv c), h := h } (kLs [0, 1, 2, 7, 11, 12, 13, 29, 31, 33]) kN = some (LL es m f q n i ++ [(29, mv q), (31, sv s), (33, iv (IntKind.i64.wrap (c + 1)))], h) := by kernel_rfl
theorem k8 (x : Slot) : evC E0 HH Try.f60.ntmps F 0 c8 0 { s := lkS (LL es m f q n i ++ [(29, mv q), (31, sv s), (33, x)]), h := h } (kL [0, 1, 2, 7, 11, 12, 13]) kN = some (LL es m f q n (IntKind.i64.wrap (i + 1)), h) := by kernel_rfl
theorem k9 : evC E0 HH Try.f60.ntmps F 0 c9 0 { s := lkS (LL es m f q n i), h := h } (kL [6]) kN = (lenA E0 39 (.sl 6 es)).bind fun n => some ([(6, bv (decide (n ≤ m)))], h) := by kernel_rfl
theorem kF (h0 : Heap) (b : Bool) : finish E0 HH Try.f60 h0 { s := lkS [(6, bv b)], h := h } = some (.ret (.lit (.bool b)), h) := by kernel_rfl
end
end DI
end Go.Sh.T

/- exp.distinct as one step. -/
namespace Go.Sh.T
set_option maxRecDepth 100000
set_option linter.unusedVariables false
set_option linter.unusedSimpArgs false
open Go Go.Sh Go.Proofs

namespace DI
open W26 (pL pR)
open P104 (slotA)
def seenB (seen : List ByteArray) (s : ByteArray) : Bool := seen.any fun x => x.data.toList == s.data.toList
def nameOf : List AV → Option ByteArray
  | [.lit (.string s), _, _, _, _, _] => some s
  | _ => none
def boolR : R → Option (Bool × Heap)
  | some (.ret (.lit (.bool b)), h) => some (b, h)
  | _ => none
def distW (call : Nat → List AV → Heap → R) (f : Nat) : List (List AV) → List ByteArray → Heap → Option (Bool × Heap)
  | [], _, h => some (true, h)
  | e :: r, seen, h => (nameOf e).bind fun s => bif Nat.ble s.size maxLen then (bif seenB seen s then some (false, h) else (boolR (call f [.lit (.string s)] h)).bind fun p => bif p.1 then distW call f r (s :: seen) p.2 else some (false, p.2)) else none
theorem nameOf_eq {e : List AV} {s : ByteArray} (h : nameOf e = some s) : ∃ q1 q2 q3 q4 q5, e = [.lit (.string s), q1, q2, q3, q4, q5] := by
  unfold nameOf at h
  split at h
  · cases h; exact ⟨_, _, _, _, _, rfl⟩
  · cases h
theorem boolR_eq {r : R} {p : Bool × Heap} (h : boolR r = some p) : r = some (.ret (.lit (.bool p.1)), p.2) := by
  unfold boolR at h
  split at h
  · cases h; rfl
  · cases h

abbrev keyL (s : ByteArray) : Lit := .string s.data.toList
abbrev numD (c : Int) : DataW Unit := .lit (.int .i64 c)
/-- What the map tells. -/
def Told (X : DataW Unit) (seen : List ByteArray) : Prop := Maps.IsMap X ∧ ∀ s, X.atKey (keyL s) (numD 0) = numD (bif seenB seen s then 1 else 0)
theorem told_nil : Told (.map []) [] := ⟨Maps.isMap_empty, fun s => rfl⟩
theorem told_put {X : DataW Unit} {seen : List ByteArray} (t : Told X seen) (s : ByteArray) : Told (X.put (keyL s) (numD 1)) (s :: seen) := by
  refine ⟨t.1.put _ _, fun s' => ?_⟩
  unfold seenB
  rw [List.any_cons]
  cases e : s.data.toList == s'.data.toList with
  | true =>
    have e := eq_of_beq e
    rw [show keyL s' = keyL s from by show Lit.string _ = _; rw [← e], Maps.atKey_put_same t.1 (show WideAt.IsKeyLit (keyL s) from trivial)]; rfl
  | false =>
    have hne : keyL s' ≠ keyL s := fun h => by
      have := Lit.string.inj h
      rw [this] at e; simp at e
    rw [Maps.atKey_put_other hne, t.2 s']; rfl

theorem lenA39 (es : List (List AV)) : lenA E0 39 (.sl 6 es) = some (es.length : Int) := (Eq.refl _).trans (by kernel_rfl)
theorem applyS (F : Nat → List AV → Heap → R) (f : Nat) (x : AV) (h : Heap) : applyV F (.fn f [] []) [x] h = F f [x] h := (Eq.refl _).trans rfl
theorem indexA_at (n : Nat) (es : List (List AV)) {i : Nat} (h : i < es.length) : indexA n (.sl n es) (.lit (.int .i64 (i : Int))) = some es[i] := by
  have := indexA_map es (fun x => x) n i h
  rwa [List.map_id'] at this

section
variable {F : Nat → List AV → Heap → R} {d : Nat} {G0 : Gh} {w0 : World} {es : List (List AV)} {m : Int} {f q : Nat}
abbrev LM (q : Nat) (k : Nat) (X : DataW Unit) (d : Nat) (G0 : Gh) (w0 : World) (l : List (Nat × Slot)) (h : Heap) (a : Act) (w : World) : Prop := AtM Try.prog 9 3 q k X d Try.f60.ntmps G0 w0 { s := lkS l, h := h } a w

theorem loop_ok (hs : SoundC Try.prog F) (hq : w0.heap.size ≤ q) (hle : es.length ≤ maxApp) {b : Bool} {hO : Heap} {Q : Exit → Act → World → Prop}
    (hex : b = true → ∀ a w x, AtSt d Try.f60.ntmps G0 w0 { s := lkS (LL es m f q es.length es.length ++ [(14, x)]), h := hO } a w → a.defers = [] → Q (.exit 0) a w)
    (hret : b = false → ∀ a w, AtSt d Try.f60.ntmps G0 w0 { s := lkS [(6, bv false)], h := hO } a w → a.defers = [] → Q .ret a w) :
    ∀ (M i : Nat) (seen : List ByteArray) (X : DataW Unit) (h : Heap) (a : Act) (w : World), es.length < M + i → i ≤ es.length → distW F f (es.drop i) seen h = some (b, hO) → Told X seen →
      LM q i X d G0 w0 (LL es m f q es.length i) h a w → a.defers = [] → Code.roundsIn (FF none) 0 Try.prog lp Q M a w
  | 0, i, seen, X, h, a, w, h1, h2, _, _, _, _ => by omega
  | M + 1, i, seen, X, h, a, w, h1, h2, hd, ht, hat, hdf => by
    rw [roundsIn_succ]
    refine wpIn_seq (seg_map (H := HH) (n := 0) (bi := 0) okE0 hs [0, 1, 2, 7, 11, 12, 13, 14] (k3 es m f q es.length i h F) hat hdf fun a1 w1 hat1 hd1 => ?_)
    have hb : a1.tmps.getD 14 undef = .bool (decide ((i : Int) < (es.length : Int))) := by
      obtain ⟨G, r, _⟩ := hat1
      exact (slotA r (i := 14) rfl).litE
    by_cases hi : i < es.length
    · have e1 : decide ((i : Int) < (es.length : Int)) = true := by simpa using hi
      rw [e1] at hb
      rw [List.drop_eq_getElem_cons hi, distW, Option.bind_eq_some_iff] at hd
      obtain ⟨s, hs1, hd⟩ := hd
      obtain ⟨hsz, hd⟩ := condE hd
      have hsz := Nat.le_of_ble_eq_true hsz
      obtain ⟨q1, q2, q3, q4, q5, he⟩ := nameOf_eq hs1
      refine wpIn_seq (wpIn_cond_true hb (wpIn_skip ?_))
      refine wpIn_seq (wpIn_block ?_)
      have hk4 := k4 es m f q es.length i h F (bv (decide ((i : Int) < (es.length : Int))))
      rw [indexA_at 6 es hi, bind_some', he, partA_full (by rfl), bind_some'] at hk4
      refine wpIn_seq (seg_map (H := HH) (n := 0) (bi := 0) okE0 hs [0, 1, 2, 7, 11, 12, 13, 9] (hk4.trans (by rfl : _ = some (L9 es m f q es.length i s q1 q2 q3 q4 q5, h))) hat1 hd1 fun a2 w2 hat2 hd2 => ?_)
      refine wpIn_seq (wpIn_seq (wpIn_region ?_))
      change wpOpsIn _ _ _ (opsOf c5) _ ([(0, o5 0), (1, o5 1), (2, o5 2)].map Prod.fst ++ [3, 4, 5, 6, 7, 8, 9, 10, 11]) _ _
      refine ops_map (H := HH) okE0 hs [0, 1, 2, 7, 11, 12, 13, 9, 17, 19] _ (k5 es m f q es.length i h F s q1 q2 q3 q4 q5) ?_ hat2 hd2 fun a3 w3 hat3 hd3 => ?_
      · intro p hp
        simp only [List.mem_cons, List.not_mem_nil, or_false] at hp
        rcases hp with rfl | rfl | rfl <;> rfl
      have h17 : a3.eval (.tmp 17) = .map (some q) := by
        obtain ⟨G, r, _⟩ := hat3
        exact (slotA r (i := 17) rfl).litE
      have h19 : a3.eval (.tmp 19) = .string s := by
        obtain ⟨G, r, _⟩ := hat3
        exact (slotA r (i := 19) rfl).litE
      have hkey := WideMaps.keyOf_string_mk (P := Try.prog) Try.underlying9 hsz
      rw [wpOpsIn_cons]
      refine step_look (o := o5 3) rfl rfl rfl (by decide) rfl rfl hat3 (Maps.string_keyed Try.underlying9) Try.underlying84 Try.underlying3 (Try.zeroValue3 _) hkey h17 h19 (ht.2 s) fun a4 hat4 hd4 => ?_
      change wpOpsIn _ _ _ (opsOf c5) _ ([(4, o5 4), (5, o5 5), (6, o5 6), (7, o5 7), (8, o5 8), (9, o5 9), (10, o5 10), (11, o5 11)].map Prod.fst ++ []) _ _
      have hops : ∀ p ∈ [(4, o5 4), (5, o5 5), (6, o5 6), (7, o5 7), (8, o5 8), (9, o5 9), (10, o5 10), (11, o5 11)], (opsOf c5)[p.1]? = some p.2 := by
        intro p hp
        simp only [List.mem_cons, List.not_mem_nil, or_false] at hp
        rcases hp with rfl | rfl | rfl | rfl | rfl | rfl | rfl | rfl <;> rfl
      -- the way out
      have out : ∀ (x : Slot) (a5 : Act) (w5 : World), b = false → AtSt d Try.f60.ntmps G0 w0 { s := lkS (L9 es m f q es.length i s q1 q2 q3 q4 q5 ++ [(28, x)]), h := hO } a5 w5 → a5.defers = [] → a5.tmps.getD 28 undef = .bool true →
          ∀ Q' : Exit → Act → World → Prop, (∀ a w, Q .ret a w → Q' .ret a w) → cc.wpIn (FF none) 0 Try.prog Q' a5 w5 := by
        intro x a5 w5 hbf hat5 hd5 h28 Q' hQ'
        refine wpIn_cond_true h28 (wpIn_seq (seg_keep (H := HH) (n := 0) (bi := 0) okE0 hs [6] (k6 es m f q es.length i hO F s q1 q2 q3 q4 q5 x) hat5 hd5 fun a6 w6 hat6 hd6 => ?_))
        exact wpIn_ret (hQ' _ _ (hret hbf a6 w6 hat6 hd6))
      cases hseen : seenB seen s with
      | true =>
        rw [hseen, cond_true] at hd
        have hd := Option.some.inj hd
        have hbf : b = false := (Prod.mk.inj hd).1.symm
        have hhh := (Prod.mk.inj hd).2
        subst hhh
        rw [hseen] at hat4
        refine ops_map (H := HH) okE0 hs [0, 1, 2, 7, 11, 12, 13, 9, 28] _ (k5t es m f q es.length i h F s q1 q2 q3 q4 q5) hops hat4 (hd4.trans hd3) fun a5 w5 hat5 hd5 => ?_
        have h28 : a5.tmps.getD 28 undef = .bool true := by
          obtain ⟨G, r, _⟩ := hat5
          exact (slotA r (i := 28) rfl).litE
        exact out _ a5 w5 hbf hat5.at hd5 h28 _ fun a w h => h
      | false =>
        rw [hseen, cond_false, Option.bind_eq_some_iff] at hd
        obtain ⟨⟨b1, h1'⟩, hb1, hd⟩ := hd
        have hF := boolR_eq hb1
        rw [hseen] at hat4
        have hk := k5f es m f q es.length i h F s q1 q2 q3 q4 q5
        rw [applyS, hF, onOut_ret] at hk
        refine ops_map (H := HH) okE0 hs [0, 1, 2, 7, 11, 12, 13, 9, 28] _ (hk.trans (by rfl : _ = some (L9 es m f q es.length i s q1 q2 q3 q4 q5 ++ [(28, bv (!b1))], h1'))) hops hat4 (hd4.trans hd3) fun a5 w5 hat5 hd5 => ?_
        have h28 : a5.tmps.getD 28 undef = .bool (!b1) := by
          obtain ⟨G, r, _⟩ := hat5
          exact (slotA r (i := 28) rfl).litE
        cases b1 with
        | false =>
          have hd := Option.some.inj hd
          have hbf : b = false := (Prod.mk.inj hd).1.symm
          have hhh := (Prod.mk.inj hd).2
          subst hhh
          exact out _ a5 w5 hbf hat5.at hd5 h28 _ fun a w h => h
        | true =>
          refine wpIn_cond_false h28 (wpIn_skip ?_)
          refine wpIn_region (ops := opsOf c7) ?_
          change wpOpsIn _ _ _ (opsOf c7) _ ([(0, o7 0), (1, o7 1), (2, o7 2)].map Prod.fst ++ [3, 4, 5]) _ _
          refine ops_map (H := HH) okE0 hs [0, 1, 2, 7, 11, 12, 13, 29, 31] _ (k7 es m f q es.length i h1' F s q1 q2 q3 q4 q5 (bv (!true))) ?_ hat5 hd5 fun a6 w6 hat6 hd6 => ?_
          · intro p hp
            simp only [List.mem_cons, List.not_mem_nil, or_false] at hp
            rcases hp with rfl | rfl | rfl <;> rfl
          have h29 : ∀ {x : List (Nat × Slot)} {k : Nat} {X : DataW Unit} {a : Act} {w : World}, LM q k X d G0 w0 (LL es m f q es.length i ++ ((29, mv q) :: x)) h1' a w → a.eval (.tmp 29) = .map (some q) := by
            intro x k X a w ⟨G, r, _⟩
            exact (slotA r (i := 29) rfl).litE
          have h31 : ∀ {x : List (Nat × Slot)} {k : Nat} {X : DataW Unit} {a : Act} {w : World}, LM q k X d G0 w0 (LL es m f q es.length i ++ ((29, mv q) :: (31, sv s) :: x)) h1' a w → a.eval (.tmp 31) = .string s := by
            intro x k X a w ⟨G, r, _⟩
            exact (slotA r (i := 31) rfl).litE
          rw [wpOpsIn_cons]
          have ht2 := ht.2 s
          rw [hseen] at ht2
          refine step_look (o := o7 3) rfl rfl rfl (by decide) rfl rfl hat6 (Maps.string_keyed Try.underlying9) Try.underlying84 Try.underlying3 (Try.zeroValue3 _) hkey (h29 hat6) (h31 hat6) ht2 fun a7 hat7 hd7 => ?_
          change wpOpsIn _ _ _ (opsOf c7) _ ([(4, o7 4)].map Prod.fst ++ [5]) _ _
          refine ops_map (H := HH) okE0 hs [0, 1, 2, 7, 11, 12, 13, 29, 31, 33] _ (k7b es m f q es.length i h1' F s 0) ?_ hat7 (hd7.trans hd6) fun a8 w8 hat8 hd8 => ?_
          · intro p hp
            simp only [List.mem_cons, List.not_mem_nil, or_false] at hp
            rcases hp with rfl; rfl
          have h33 : a8.eval (.tmp 33) = .int .i64 1 := by
            obtain ⟨G, r, _⟩ := hat8
            exact (slotA r (i := 33) rfl).litE
          rw [wpOpsIn_cons]
          refine step_update (o := o7 5) rfl rfl rfl rfl hat8 hq (Maps.string_keyed Try.underlying9) Try.underlying84 Try.underlying3 (Nat.lt_of_lt_of_le hi (Nat.le_trans hle (by decide))) hkey (c := 1) (by decide) (h29 hat8) (h31 hat8) h33 fun a9 w9 hat9 hd9 => ?_
          have hk8 := k8 es m f q es.length i h1' F s (iv (IntKind.i64.wrap (0 + 1)))
          rw [show IntKind.i64.wrap ((i : Int) + 1) = ((i + 1 : Nat) : Int) from ?_] at hk8
          · refine seg_map (H := HH) (n := 0) (bi := 0) okE0 hs [0, 1, 2, 7, 11, 12, 13] hk8 hat9 (hd9.trans hd8) fun a10 w10 hat10 hd10 => ?_
            exact loop_ok hs hq hle hex hret M (i + 1) (s :: seen) _ h1' a10 w10 (by omega) hi hd (told_put ht s) hat10 hd10
          · have := inc (i := i) (Nat.lt_of_lt_of_le hi (Nat.le_trans hle (by decide)))
            simpa [intBin] using this
    · have e1 : decide ((i : Int) < (es.length : Int)) = false := by simpa using hi
      rw [e1] at hb
      have e2 : i = es.length := by omega
      subst e2
      rw [List.drop_length, distW] at hd
      have hd := Option.some.inj hd
      have hbf : b = true := (Prod.mk.inj hd).1.symm
      have hhh := (Prod.mk.inj hd).2
      subst hhh
      refine wpIn_seq (wpIn_cond_false hb (wpIn_exit ?_))
      exact hex hbf a1 w1 _ hat1.at hd1
end
end DI
end Go.Sh.T

/- exp.distinct, whole. -/
namespace Go.Sh.T
set_option maxRecDepth 100000
set_option linter.unusedVariables false
set_option linter.unusedSimpArgs false
open Go Go.Sh Go.Proofs

namespace DI
open W26 (pL pR)
theorem done_ok {d : Nat} {G0 : Gh} {w0 : World} {h : Heap} {a : Act} {w : World} {b : Bool} (hat : AtSt d Try.f60.ntmps G0 w0 { s := lkS [(6, bv b)], h := h } a w) (hd : a.defers = []) : bodyPost Try.prog Try.f60 (EndOk d G0 w0 (.ret (.lit (.bool b))) h) .ret a w := by
  obtain ⟨G, r, hnt, hf⟩ := hat
  obtain ⟨v, k1, ⟨G', k2, k3, k4, k5⟩, _⟩ := finish_ok (G0 := G) (w0 := w) okE0 r.heap r (Fr.refl _ _ _) (kF h h b)
  exact ⟨hd, v, k1, G', hf.trans k2, k3, k4, k5⟩
theorem ends {F : Nat → List AV → Heap → R} (hs : SoundC Try.prog F) (es : List (List AV)) (m : Int) (f : Nat) (hle : es.length ≤ maxApp) {h hO : Heap} {b : Bool} (hd : distW F f es [] h = some (b, hO)) :
    Ends Try.prog 60 [.sl 6 es, .lit (.int .i64 m), .fn f [] []] h (.ret (.lit (.bool (b && decide ((es.length : Int) ≤ m))))) hO := by
  refine ⟨⟨Try.f60, Try.func60, by kernel_rfl, rfl⟩, fun d G w argv hr hh hw => ?_⟩
  refine calls_of_wp Try.func60 rfl ?_
  refine (wpIn_wide (n := 0)).1 ?_
  have hal : argv.size = 3 := by simpa using hr.length.symm
  have hat : AtSt d Try.f60.ntmps G w { s := lkS (argSlots 0 [.sl 6 es, .lit (.int .i64 m), .fn f [] []]), h := h } { tmps := argv ++ Array.replicate (Try.f60.ntmps - argv.size) undef, defers := [] } w := by
    refine ⟨G, ⟨fun i => ?_, fun u t off hu => ?_, hh, hw⟩, by rw [Array.size_append, Array.size_replicate, hal]; rfl, Fr.refl d G w⟩
    · rcases lkS_spec (argSlots 0 [.sl 6 es, .lit (.int .i64 m), .fn f [] []]) i with e1 | e1
      · show RepSlot _ _ _ _ (lkS _ _) _
        rw [e1]; trivial
      · refine argSlots_spec _ 0 argv.toList hr (fun j x hj => ?_) _ e1
        have hj' : j < argv.size := by simpa using (List.getElem?_eq_some_iff.1 hj).1
        rw [Nat.zero_add, Array.getD_eq_getD_getElem?, Array.getElem?_append_left hj', ← Array.getElem?_toList, hj]; rfl
    · exfalso
      have hu : lkS (argSlots 0 [.sl 6 es, .lit (.int .i64 m), .fn f [] []]) u = .path t off := hu
      rcases lkS_spec (argSlots 0 [.sl 6 es, .lit (.int .i64 m), .fn f [] []]) u with e1 | e1
      · rw [e1] at hu; cases hu
      · rw [hu] at e1; simp [argSlots] at e1
  refine wpIn_seq (seg_keep okE0 hs (H := HH) (n := 0) (bi := 0) [0, 1, 2] (k0 es m f h F) hat rfl fun a1 w1 hat1 hd1 => ?_)
  refine wpIn_seq (wpIn_region (ops := opsOf c1) ?_)
  change wpOpsIn _ _ _ (opsOf c1) _ [0, 1] _ _
  rw [wpOpsIn_cons]
  refine step_make (k := 9) (e := 3) (o := o1 0) rfl rfl rfl (by decide) rfl rfl hat1 fun a2 w2 q hq hat2 hd2 => ?_
  change wpOpsIn _ _ _ (opsOf c1) _ ([(1, o1 1)].map Prod.fst ++ []) _ _
  refine ops_map (H := HH) okE0 hs [0, 1, 2, 7] _ (k1 es m f q h F) ?_ hat2 (hd2.trans hd1) fun a3 w3 hat3 hd3 => ?_
  · intro p hp
    simp only [List.mem_cons, List.not_mem_nil, or_false] at hp
    rcases hp with rfl; rfl
  have hk2 := k2 es m f q h F
  rw [lenA39, bind_some'] at hk2
  refine wpIn_seq (wpIn_seq (seg_map (H := HH) (n := 0) (bi := 0) okE0 hs [0, 1, 2, 7, 11, 12, 13] hk2 hat3 hd3 fun a4 w4 hat4 hd4 => ?_))
  refine wpIn_block (wpIn_loop_rounds (es.length + 1) ?_)
  refine loop_ok (b := b) (hO := hO) (f := f) (m := m) hs hq hle ?_ ?_ (es.length + 1) 0 [] _ h a4 w4 (by omega) (Nat.zero_le _) (by rw [List.drop_zero]; exact hd) told_nil hat4 hd4
  · intro hb a5 w5 x hat5 hd5
    have hk9 := k9 es m f q es.length es.length hO F
    rw [lenA39, bind_some'] at hk9
    have hat6 := AtSt.keep (some [0, 1, 2, 7, 11, 12, 13]) hat5
    show Code.wpIn (FF none) 0 Try.prog (pR (pR (pR body))) (bodyPost Try.prog Try.f60 (EndOk d G w (.ret (.lit (.bool (b && decide ((es.length : Int) ≤ m))))) hO)) a5 w5
    refine wpIn_seq (seg_keep (H := HH) (n := 0) (bi := 0) okE0 hs [6] hk9 hat6 hd5 fun a7 w7 hat7 hd7 => ?_)
    rw [hb]
    exact wpIn_ret (done_ok hat7 hd7)
  · intro hb a5 w5 hat5 hd5
    rw [hb]
    exact done_ok hat5 hd5

theorem distW_mono {c c' : Nat → List AV → Heap → R} (hc : Le c c') (f : Nat) : ∀ (es : List (List AV)) (seen : List ByteArray) (h : Heap) {p : Bool × Heap}, distW c f es seen h = some p → distW c' f es seen h = some p
  | [], seen, h, p, e => e
  | x :: r, seen, h, p, e => by
    rw [distW, Option.bind_eq_some_iff] at e ⊢
    obtain ⟨s, hs, e⟩ := e
    refine ⟨s, hs, ?_⟩
    obtain ⟨h1, e⟩ := condE e
    rw [h1, cond_true]
    cases hz : seenB seen s with
    | true => rw [hz] at e; exact e
    | false =>
      rw [hz, cond_false, Option.bind_eq_some_iff] at e
      rw [cond_false, Option.bind_eq_some_iff]
      obtain ⟨y, hy, e⟩ := e
      refine ⟨y, by rw [hc _ _ _ _ (boolR_eq hy)]; rfl, ?_⟩
      cases hb : y.1 with
      | true => rw [hb] at e; exact distW_mono hc f r _ _ e
      | false => rw [hb] at e; exact e
theorem le_up {c : Nat → Nat → List AV → Heap → R} (hc : ∀ k, Le (c k) (c (k + 1))) {k : Nat} : ∀ {j : Nat}, k ≤ j → Le (c k) (c j) := by
  intro j hj
  induction hj with
  | refl => exact fun _ _ _ _ h => h
  | step _ ih => exact fun _ _ _ _ h => hc _ _ _ _ _ (ih _ _ _ _ h)
theorem distW_few {c : Nat → Nat → List AV → Heap → R} {c' : Nat → List AV → Heap → R} (hc : ∀ k, Le (c k) (c (k + 1))) (hl : ∀ f args h r, c' f args h = some r → ∃ k, c k f args h = some r) (f : Nat) : ∀ (es : List (List AV)) (seen : List ByteArray) (h : Heap) {p : Bool × Heap}, distW c' f es seen h = some p → ∃ k, distW (c k) f es seen h = some p
  | [], seen, h, p, e => ⟨0, e⟩
  | x :: r, seen, h, p, e => by
    rw [distW, Option.bind_eq_some_iff] at e
    obtain ⟨s, hs, e⟩ := e
    obtain ⟨h1, e⟩ := condE e
    cases hz : seenB seen s with
    | true => rw [hz] at e; exact ⟨0, by rw [distW, hs, bind_some', h1, hz]; exact e⟩
    | false =>
      rw [hz, cond_false, Option.bind_eq_some_iff] at e
      obtain ⟨y, hy, e⟩ := e
      obtain ⟨k1, hk1⟩ := hl _ _ _ _ (boolR_eq hy)
      cases hb : y.1 with
      | true =>
        rw [hb] at e hk1
        obtain ⟨k2, hk2⟩ := distW_few hc hl f r _ _ e
        refine ⟨max k1 k2, ?_⟩
        rw [distW, hs, bind_some', h1, hz, cond_true, cond_false, le_up hc (Nat.le_max_left k1 k2) _ _ _ _ hk1]
        exact distW_mono (le_up hc (Nat.le_max_right k1 k2)) f r _ _ hk2
      | false =>
        rw [hb] at e hk1
        exact ⟨k1, by rw [distW, hs, bind_some', h1, hz, cond_true, cond_false, hk1]; exact e⟩
end DI
def p60 : (Nat → List AV → Heap → R) → List AV → Heap → R := fun call args h => match args with
  | [.sl 6 es, .lit (.int .i64 m), .fn f [] []] => bif Nat.ble es.length maxApp then (DI.distW call f es [] h).bind fun p => some (.ret (.lit (.bool (p.1 && decide ((es.length : Int) ≤ m)))), p.2) else none
  | _ => none
theorem p60_ok (call : Nat → List AV → Heap → R) (hs : SoundC Try.prog call) (args : List AV) (h : Heap) (out : Out) (h' : Heap) (e : p60 call args h = some (out, h')) : Ends Try.prog 60 args h out h' := by
  unfold p60 at e
  split at e
  · obtain ⟨h1, e⟩ := condE e
    rw [Option.bind_eq_some_iff] at e
    obtain ⟨p, hp, e⟩ := e
    have e := Option.some.inj e; cases e
    exact DI.ends hs _ _ _ (Nat.le_of_ble_eq_true h1) hp
  · cases e
theorem p60_c : PrimC p60 := by
  constructor
  · intro c c' hc args h r e
    unfold p60 at e ⊢
    split at e
    · obtain ⟨h1, e⟩ := condE e
      rw [Option.bind_eq_some_iff] at e
      obtain ⟨p, hp, e⟩ := e
      simp only [h1, cond_true]
      rw [DI.distW_mono hc _ _ _ _ hp]; exact e
    · cases e
  · intro c c' hc hl args h r e
    unfold p60 at e
    split at e
    · obtain ⟨h1, e⟩ := condE e
      rw [Option.bind_eq_some_iff] at e
      obtain ⟨p, hp, e⟩ := e
      obtain ⟨k, hk⟩ := DI.distW_few hc hl _ _ _ _ hp
      refine ⟨k, ?_⟩
      unfold p60
      simp only [h1, cond_true]
      rw [hk]; exact e
    · cases e
end Go.Sh.T
