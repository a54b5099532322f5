/- CoreE: part of the proof: a shadow of the machine that is proved sound, and what the functions of this seat compute. Conditions: none. -/
import Derived.Test.YtgjjdaillajgbaaCoreD
import Derived.Test.YtgjjdaillajgbaaCoreC
/- Values put in terms, terms without casts, seals put in terms: the plain laws. -/
namespace Go.Sh.T
open Go Go.Sh
set_option linter.unusedSimpArgs false
set_option linter.unusedVariables false
set_option maxRecDepth 100000

def mapK (g : Nat → Core → Core) : Nat → List Core → List Core
  | _, [] => []
  | i, k :: r => g i k :: mapK g (i + 1) r
theorem mapK_len (g : Nat → Core → Core) : ∀ (i : Nat) (l : List Core), (mapK g i l).length = l.length
  | _, [] => rfl
  | i, k :: r => by rw [mapK, List.length_cons, List.length_cons, mapK_len g (i + 1) r]
theorem mapK_comp (f g : Nat → Core → Core) : ∀ (i : Nat) (l : List Core), mapK f i (mapK g i l) = mapK (fun i k => f i (g i k)) i l
  | _, [] => rfl
  | i, k :: r => by rw [mapK, mapK, mapK, mapK_comp f g (i + 1) r]
theorem mapK_congr {f g : Nat → Core → Core} : ∀ (i : Nat) (l : List Core), (∀ i k, k ∈ l → f i k = g i k) → mapK f i l = mapK g i l
  | _, [], _ => rfl
  | i, k :: r, h => by rw [mapK, mapK, h i k List.mem_cons_self, mapK_congr (i + 1) r fun j x hx => h j x (List.mem_cons_of_mem _ hx)]
theorem mapK_mem {g : Nat → Core → Core} : ∀ {i : Nat} {l : List Core} {x : Core}, x ∈ mapK g i l → ∃ j k, k ∈ l ∧ x = g j k
  | _, [], _, h => by cases h
  | i, k :: r, x, h => by
    rw [mapK] at h
    rcases List.mem_cons.1 h with e | e
    · exact ⟨i, k, List.mem_cons_self, e⟩
    · obtain ⟨j, y, hy, e⟩ := mapK_mem e
      exact ⟨j, y, List.mem_cons_of_mem _ hy, e⟩
theorem mapK_id : ∀ (i : Nat) (l : List Core), mapK (fun _ k => k) i l = l
  | _, [] => rfl
  | i, k :: r => by rw [mapK, mapK_id (i + 1) r]

/-- Is a name bound anew in the i-th one. -/
noncomputable def hold (k : Int) (nm s : ByteArray) (i : Nat) : Bool := eqd nm s && (eqd k 7 || (eqd k 5 && eqd (i : Int) 1))
def valNode (v : Val) : Core := ⟨14, 0, 0, false, ByteArray.empty, ByteArray.empty, 0, [], [], [], [v]⟩
mutual
noncomputable def Core.put (s : ByteArray) (v : Val) : Core → Core
  | ⟨k, n, m, b, nm, d, e, ts, ls, xs, vs⟩ => bif eqd k 4 && eqd nm s then valNode v else ⟨k, n, m, b, nm, d, e, ts, ls, Core.putL s v (hold k nm s) 0 xs, vs⟩
noncomputable def Core.putL (s : ByteArray) (v : Val) (ho : Nat → Bool) : Nat → List Core → List Core
  | _, [] => []
  | i, c :: r => (bif ho i then c else c.put s v) :: Core.putL s v ho (i + 1) r
end
theorem Core.putL_map (s : ByteArray) (v : Val) (ho : Nat → Bool) : ∀ (i : Nat) (l : List Core), Core.putL s v ho i l = mapK (fun i c => bif ho i then c else c.put s v) i l
  | i, [] => by rw [Core.putL, mapK]
  | i, c :: r => by rw [Core.putL, mapK, Core.putL_map s v ho (i + 1) r]
noncomputable def putG (s : ByteArray) (v : Val) (k : Int) (nm : ByteArray) (i : Nat) (c : Core) : Core := bif hold k nm s i then c else c.put s v
theorem Core.put_eq (s : ByteArray) (v : Val) (c : Core) : c.put s v = bif eqd c.k 4 && eqd c.name s then valNode v else { c with kids := mapK (putG s v c.k c.name) 0 c.kids } := by
  cases c; rw [Core.put, Core.putL_map]; rfl

mutual
noncomputable def Core.bare : Core → Core
  | ⟨k, n, m, b, nm, d, e, ts, ls, xs, vs⟩ => bif eqd k 12 && eqd xs.length 1 then (Core.bareL xs).headD (valNode ⟨0, 0, 0, false, ByteArray.empty, ByteArray.empty, 0, [], [], []⟩) else ⟨k, n, m, b, nm, ByteArray.empty, 0, [], ls, Core.bareL xs, vs⟩
noncomputable def Core.bareL : List Core → List Core
  | [] => []
  | c :: r => c.bare :: Core.bareL r
end
theorem Core.bareL_map : ∀ l : List Core, Core.bareL l = mapK (fun _ c => c.bare) 0 l := by
  have : ∀ (l : List Core) (i : Nat), Core.bareL l = mapK (fun _ c => c.bare) i l := by
    intro l
    induction l with
    | nil => intro i; rw [Core.bareL, mapK]
    | cons c r ih => intro i; rw [Core.bareL, mapK, ih (i + 1)]
  exact fun l => this l 0
theorem Core.bare_eq (c : Core) (h : (eqd c.k 12 && eqd c.kids.length 1) = false) : c.bare = { c with types := [], df := ByteArray.empty, nd := 0, kids := mapK (fun _ c => c.bare) 0 c.kids } := by
  cases c; rw [Core.bare, Core.bareL_map]
  simp only at h
  rw [h]; rfl
theorem Core.bare_cast (c : Core) (x : Core) (hk : c.k = 12) (h : c.kids = [x]) : c.bare = x.bare := by
  cases c
  simp only at hk h
  subst hk; subst h
  rw [Core.bare, show eqd [x].length 1 = true from eqd_iff.2 rfl, eqd_self, Core.bareL]; rfl

theorem Core.kid_lt {c x : Core} (h : x ∈ c.kids) : SizeOf.sizeOf x < SizeOf.sizeOf c := by
  have := List.sizeOf_lt_of_mem h
  cases c; simp only [Core.mk.sizeOf_spec] at *; omega

/- what was put -/
theorem valNode_put (s : ByteArray) (v w : Val) : (valNode v).put s w = valNode v := by
  rw [Core.put_eq]
  rw [show eqd (valNode v).k 4 = false from eqd_f (show (14 : Int) ≠ 4 by decide), Bool.false_and, cond_false]; rfl
theorem valNode_bare (v : Val) : (valNode v).bare = valNode v := by
  rw [Core.bare_eq _ (by rw [show eqd (valNode v).k 12 = false from eqd_f (show (14 : Int) ≠ 12 by decide), Bool.false_and])]; rfl

theorem eqd_symm_f {α : Type} {a b c : α} (h : a ≠ b) (e : eqd c a = true) : eqd c b = false := by
  rw [eqd_iff] at e; subst e; exact eqd_f h

theorem put_put {s t : ByteArray} (hst : s ≠ t) (v w : Val) : ∀ c : Core, (c.put s v).put t w = (c.put t w).put s v
  | c => by
    have rc : ∀ x ∈ c.kids, (x.put s v).put t w = (x.put t w).put s v := fun x hx => put_put hst v w x
    rw [Core.put_eq s v c, Core.put_eq t w c]
    cases h1 : eqd c.k 4 && eqd c.name s with
    | true =>
      rw [Bool.and_eq_true] at h1
      rw [eqd_symm_f hst h1.2, Bool.and_false, cond_true, cond_false, valNode_put, Core.put_eq]
      rw [show ({ c with kids := mapK (putG t w c.k c.name) 0 c.kids } : Core).k = c.k from rfl, show ({ c with kids := mapK (putG t w c.k c.name) 0 c.kids } : Core).name = c.name from rfl, h1.1, h1.2]; rfl
    | false =>
      rw [cond_false]
      cases h2 : eqd c.k 4 && eqd c.name t with
      | true =>
        rw [cond_true, valNode_put, Core.put_eq]
        rw [show ({ c with kids := mapK (putG s v c.k c.name) 0 c.kids } : Core).k = c.k from rfl, show ({ c with kids := mapK (putG s v c.k c.name) 0 c.kids } : Core).name = c.name from rfl, h2]; rfl
      | false =>
        rw [cond_false, Core.put_eq t w, Core.put_eq s v]
        simp only [h1, h2, cond_false, mapK_comp]
        congr 1
        refine mapK_congr 0 c.kids fun i x hx => ?_
        unfold putG hold
        have hr := rc x hx
        cases e1 : eqd c.name s with
        | false =>
          simp only [Bool.false_and, cond_false]
          cases (eqd c.name t && (eqd c.k 7 || eqd c.k 5 && eqd (i : Int) 1)) with
          | true => rfl
          | false => exact hr
        | true =>
          rw [eqd_symm_f hst e1]
          simp only [Bool.false_and, cond_false, Bool.true_and]
          cases (eqd c.k 7 || eqd c.k 5 && eqd (i : Int) 1) with
          | true => rfl
          | false => exact hr
  termination_by c => SizeOf.sizeOf c
  decreasing_by exact Core.kid_lt hx

theorem put_again (s : ByteArray) (v w : Val) : ∀ c : Core, (c.put s v).put s w = c.put s v
  | c => by
    have rc : ∀ x ∈ c.kids, (x.put s v).put s w = x.put s v := fun x hx => put_again s v w x
    rw [Core.put_eq s v c]
    cases h1 : eqd c.k 4 && eqd c.name s with
    | true => rw [cond_true, valNode_put]
    | false =>
      rw [cond_false, Core.put_eq]
      simp only [h1, cond_false, mapK_comp]
      congr 1
      refine mapK_congr 0 c.kids fun i x hx => ?_
      unfold putG
      have hr := rc x hx
      cases hold c.k c.name s i with
      | true => rfl
      | false => exact hr
  termination_by c => SizeOf.sizeOf c
  decreasing_by exact Core.kid_lt hx

theorem one_kid {c : Core} (h : (eqd c.k 12 && eqd c.kids.length 1) = true) : c.k = 12 ∧ ∃ x, c.kids = [x] := by
  rw [Bool.and_eq_true, eqd_iff, eqd_iff] at h
  refine ⟨h.1, ?_⟩
  match hk : c.kids, h.2 with
  | [x], _ => exact ⟨x, rfl⟩
theorem bare_bare : ∀ c : Core, c.bare.bare = c.bare
  | c => by
    have rc : ∀ x ∈ c.kids, x.bare.bare = x.bare := fun x hx => bare_bare x
    cases h : eqd c.k 12 && eqd c.kids.length 1 with
    | true =>
      obtain ⟨hk, x, hx⟩ := one_kid h
      rw [Core.bare_cast c x hk hx]
      exact rc x (by rw [hx]; exact List.mem_cons_self)
    | false =>
      rw [Core.bare_eq c h, Core.bare_eq]
      · simp only [mapK_comp]
        congr 1
        exact mapK_congr 0 c.kids fun i x hx => rc x hx
      · simp only [mapK_len]; exact h
  termination_by c => SizeOf.sizeOf c
  decreasing_by exact Core.kid_lt hx

theorem bare_put (s : ByteArray) (v : Val) : ∀ c : Core, (c.put s v).bare = c.bare.put s v
  | c => by
    have rc : ∀ x ∈ c.kids, (x.put s v).bare = x.bare.put s v := fun x hx => bare_put s v x
    cases h : eqd c.k 12 && eqd c.kids.length 1 with
    | true =>
      obtain ⟨hk, x, hx⟩ := one_kid h
      rw [Core.bare_cast c x hk hx, ← rc x (by rw [hx]; exact List.mem_cons_self), Core.put_eq, hk, show eqd (12 : Int) 4 = false from eqd_f (by decide), Bool.false_and, cond_false]
      refine Core.bare_cast _ _ rfl ?_
      rw [hx]
      show [putG s v 12 c.name 0 x] = [x.put s v]
      unfold putG hold
      rw [show eqd (12 : Int) 7 = false from eqd_f (by decide), show eqd (12 : Int) 5 = false from eqd_f (by decide), Bool.false_and, Bool.or_false, Bool.and_false, cond_false]
    | false =>
      rw [Core.bare_eq c h, Core.put_eq s v c, Core.put_eq s v]
      simp only
      cases h1 : eqd c.k 4 && eqd c.name s with
      | true => rw [cond_true, cond_true, valNode_bare]
      | false =>
        rw [cond_false, cond_false, Core.bare_eq _ (by simp only [mapK_len]; exact h)]
        simp only [mapK_comp]
        congr 1
        refine mapK_congr 0 c.kids fun i x hx => ?_
        unfold putG
        have hr := rc x hx
        cases hold c.k c.name s i with
        | true => rfl
        | false => exact hr
  termination_by c => SizeOf.sizeOf c
  decreasing_by exact Core.kid_lt hx

/- terms that are not too wide -/
inductive Core.Slim : Core → Prop
  | mk {c : Core} (hl : c.kids.length ≤ 1048576) (hk : ∀ x ∈ c.kids, x.Slim) : c.Slim
theorem Core.Slim.len {c : Core} (h : c.Slim) : c.kids.length ≤ 1048576 := by cases h with | mk hl _ => exact hl
theorem Core.Slim.kid {c : Core} (h : c.Slim) {x : Core} (hx : x ∈ c.kids) : x.Slim := by cases h with | mk _ hk => exact hk x hx

theorem valNode_ok {v : Val} (ov : v.Ok) : (valNode v).Ok := by
  refine .mk (show (Lit.int .i64 14).wf = true by decide) (show (Lit.int .i64 0).wf = true by decide) (show (Lit.int .i64 0).wf = true by decide) (show (Lit.int .i64 0).wf = true by decide) (Nat.zero_le _) (Nat.zero_le _) (Nat.zero_le _) (fun _ h => by cases h) (Nat.zero_le _) (fun _ h => by cases h) (Nat.zero_le _) (fun _ h => by cases h) (show 1 ≤ maxLen by decide) fun x h => ?_
  rw [List.mem_singleton.1 h]; exact ov
theorem Core.Ok.withK {c : Core} (h : c.Ok) {l : List Core} (hl : l.length ≤ maxLen) (hk : ∀ x ∈ l, x.Ok) : ({ c with kids := l } : Core).Ok := by
  cases h with
  | mk a1 a2 a3 a4 a5 a6 a7 a8 a9 a10 a11 a12 a13 a14 => exact .mk a1 a2 a3 a4 a5 a6 a7 a8 a9 a10 hl hk a13 a14
theorem Core.put_ok (s : ByteArray) {v : Val} (ov : v.Ok) : ∀ c : Core, c.Ok → (c.put s v).Ok
  | c, oc => by
    have rc : ∀ x ∈ c.kids, (x.put s v).Ok := fun x hx => Core.put_ok s ov x (oc.kid hx)
    rw [Core.put_eq]
    cases eqd c.k 4 && eqd c.name s with
    | true => exact valNode_ok ov
    | false =>
      refine oc.withK (by rw [mapK_len]; exact oc.len) fun x hx => ?_
      obtain ⟨j, k, hk, rfl⟩ := mapK_mem hx
      unfold putG
      cases hold c.k c.name s j with
      | true => exact oc.kid hk
      | false => exact rc k hk
  termination_by c => SizeOf.sizeOf c
  decreasing_by exact Core.kid_lt hx
theorem Core.put_slim (s : ByteArray) (v : Val) : ∀ c : Core, c.Slim → (c.put s v).Slim
  | c, oc => by
    have rc : ∀ x ∈ c.kids, (x.put s v).Slim := fun x hx => Core.put_slim s v x (oc.kid hx)
    rw [Core.put_eq]
    cases eqd c.k 4 && eqd c.name s with
    | true => exact .mk (Nat.zero_le _) fun _ h => by cases h
    | false =>
      refine .mk (by rw [cond_false, mapK_len]; exact oc.len) fun x hx => ?_
      obtain ⟨j, k, hk, rfl⟩ := mapK_mem hx
      unfold putG
      cases hold c.k c.name s j with
      | true => exact oc.kid hk
      | false => exact rc k hk
  termination_by c => SizeOf.sizeOf c
  decreasing_by exact Core.kid_lt hx
theorem Core.bare_ok : ∀ c : Core, c.Ok → c.bare.Ok
  | c, oc => by
    have rc : ∀ x ∈ c.kids, x.bare.Ok := fun x hx => Core.bare_ok x (oc.kid hx)
    cases h : eqd c.k 12 && eqd c.kids.length 1 with
    | true =>
      obtain ⟨hk, x, hx⟩ := one_kid h
      rw [Core.bare_cast c x hk hx]
      exact rc x (by rw [hx]; exact List.mem_cons_self)
    | false =>
      rw [Core.bare_eq c h]
      cases oc with
      | mk a1 a2 a3 a4 a5 a6 a7 a8 a9 a10 a11 a12 a13 a14 =>
        refine .mk a1 a2 a3 (show (Lit.int .i64 0).wf = true by decide) a5 (Nat.zero_le _) (Nat.zero_le _) (fun _ h => by cases h) a9 a10 (by rw [mapK_len]; exact a11) (fun x hx => ?_) a13 a14
        obtain ⟨j, k, hk, rfl⟩ := mapK_mem hx
        exact rc k hk
  termination_by c => SizeOf.sizeOf c
  decreasing_by exact Core.kid_lt hx
theorem Core.bare_slim : ∀ c : Core, c.Slim → c.bare.Slim
  | c, oc => by
    have rc : ∀ x ∈ c.kids, x.bare.Slim := fun x hx => Core.bare_slim x (oc.kid hx)
    cases h : eqd c.k 12 && eqd c.kids.length 1 with
    | true =>
      obtain ⟨hk, x, hx⟩ := one_kid h
      rw [Core.bare_cast c x hk hx]
      exact rc x (by rw [hx]; exact List.mem_cons_self)
    | false =>
      rw [Core.bare_eq c h]
      refine .mk (by rw [mapK_len]; exact oc.len) fun x hx => ?_
      obtain ⟨j, k, hk, rfl⟩ := mapK_mem hx
      exact rc k hk
  termination_by c => SizeOf.sizeOf c
  decreasing_by exact Core.kid_lt hx

/- how much there is of it -/
def Core.vol (c : Core) : Nat := volC c.cells
theorem volE_mem {α : Type} (f : α → List AV) : ∀ (l : List α) (x : α), x ∈ l → volC (f x) ≤ volE (l.map f)
  | y :: r, x, h => by
    rw [List.map_cons, volE]
    rcases List.mem_cons.1 h with e | e
    · rw [e]; exact Nat.le_add_right _ _
    · have := volE_mem f r x e; omega
theorem volE_len {α : Type} (f : α → List AV) (h1 : ∀ x, 1 ≤ volC (f x)) : ∀ (l : List α), l.length ≤ volE (l.map f)
  | [] => Nat.zero_le _
  | y :: r => by
    have := volE_len f h1 r; have := h1 y
    rw [List.map_cons, volE, List.length_cons]; omega
theorem Core.vol_pos (c : Core) : 1 ≤ volC c.cells := by
  rw [Core.cells_eq]; simp only [volC, Sh.vol]; omega
theorem Core.vol_kids (c : Core) : volE (c.kids.map Core.cells) ≤ c.vol := by
  unfold Core.vol; rw [Core.cells_eq]; simp only [volC, Sh.vol]; omega
theorem Core.vol_types (c : Core) : volE (c.types.map Ty.cells) ≤ c.vol := by
  unfold Core.vol; rw [Core.cells_eq]; simp only [volC, Sh.vol]; omega
theorem Core.vol_kid {c x : Core} (h : x ∈ c.kids) : x.vol ≤ c.vol := Nat.le_trans (volE_mem Core.cells _ _ h) c.vol_kids
theorem Core.slim_vol : ∀ c : Core, c.vol ≤ 1048576 → c.Slim
  | c, h => .mk (Nat.le_trans (Nat.le_trans (volE_len Core.cells Core.vol_pos _) c.vol_kids) h) fun x hx => Core.slim_vol x (Nat.le_trans (Core.vol_kid hx) h)
  termination_by c => SizeOf.sizeOf c
  decreasing_by exact Core.kid_lt hx
end Go.Sh.T

/- Put, Bare: the program's and the document's. -/
namespace Go.Sh.T
open Go Go.Sh
set_option linter.unusedSimpArgs false
set_option linter.unusedVariables false
set_option maxRecDepth 100000

theorem apC (acc : List Core) (x : Core) (h : acc.length ≤ 1048576) : Nat.ble ((acc.map Core.cells).length + ([x.cells] : List (List AV)).length) maxApp = true := by
  rw [Nat.ble_eq]; unfold maxApp; simp; omega
theorem apE (acc : List Core) (x : Core) : acc.map Core.cells ++ [x.cells] = (acc ++ [x]).map Core.cells := by simp
theorem eqlE (a b : Int) : intBin .eql .i64 a b = some (.lit (.bool (eqd a b))) := by rw [eqlI, int_eqd]
theorem len_eqd (l : List Core) : eqd (l.length : Int) 1 = eqd l.length 1 := by
  rw [Bool.eq_iff_iff, eqd_iff, eqd_iff]; omega
theorem withK_cells (c : Core) (l : List Core) : ({ c with kids := l } : Core).cells = [.lit (.int .i64 c.k), .lit (.int .i64 c.n), .lit (.int .i64 c.m), .lit (.bool c.inn), .lit (.string c.name), .lit (.string c.df), .lit (.int .i64 c.nd), .sl 5 (c.types.map Ty.cells), .sl 1 (c.labels.map strC), .sl 11 (l.map Core.cells), .sl 10 (c.vals.map Val.cells)] := by rw [Core.cells_eq]
theorem valNode_cells (v : Val) : (valNode v).cells = [.lit (.int .i64 14), .lit (.int .i64 0), .lit (.int .i64 0), .lit (.bool false), .lit (.string ByteArray.empty), .lit (.string ByteArray.empty), .lit (.int .i64 0), .sl 5 [], .sl 1 [], .sl 11 [], .sl 10 [v.cells]] := by rw [Core.cells_eq]; rfl

theorem one_get {l : List Core} (h : l.length = 1) (h0 : 0 < l.length) : l = [l[0]] := by
  match l, h, h0 with
  | [x], _, _ => rfl

theorem turned98 (c : Core) (f : AV) (g : Nat → Core → Core) (hl : c.kids.length ≤ 1048576) (h : Heap) (rc : ∀ i (hi : i < c.kids.length), applyV (evw E) f [.lit (.int .i64 (i : Int)), .agg (c.kids[i]).cells] h = some (.ret (.agg (g i c.kids[i]).cells), h)) :
    evw E 98 [.agg c.cells, f] h = some (.ret (.agg ({ c with kids := mapK g 0 c.kids } : Core).cells), h) := by
  have loop : ∀ (x4 x5 x6 x7 x8 x9 x10 : AV) (z11 z12 z13 z14 : List (List AV)) (x15 x16 x17 x18 x19 x20 x21 x22 x23 x25 : AV) (q i : Nat) (acc : List Core), i ≤ c.kids.length → c.kids.length < q + i → acc.length = i → Lp98_0 (evw E) (c.kids.length + 1) h q h f x4 x5 x6 x7 x8 x9 x10 z11 z12 z13 z14 x15 x16 x17 x18 x19 x20 x21 x22 x23 (acc.map Core.cells) x25 (.sl 11 (c.kids.map Core.cells)) (.lit (.int .i64 (c.kids.length : Int))) (.lit (.int .i64 (i : Int))) = some (.ret (.agg [x15, x16, x17, x18, x19, x20, x21, x22, x23, .sl 11 ((acc ++ mapK g i (c.kids.drop i)).map Core.cells), x25]), h) := by
    intro x4 x5 x6 x7 x8 x9 x10 z11 z12 z13 z14 x15 x16 x17 x18 x19 x20 x21 x22 x23 x25 q
    induction q with
    | zero => intro i acc h1 h2; omega
    | succ q ih =>
      intro i acc h1 h2 h3
      rw [Lp98_0_succ, bin_int, lssI, bind_some', boolB, bind_some']
      by_cases hi : i < c.kids.length
      · rw [ltT hi, condT, indexA_map _ _ _ _ hi, bind_some', partA_full (Core.cells_len _), bind_some', aggS, bind_some', Core.cells_len, show Nat.beq 11 11 = true from rfl, condT, Core.re, rc i hi, onOut_ret, aggS, bind_some', Core.cells_len, show Nat.beq 11 11 = true from rfl, condT, Core.re, apC _ _ (by omega), condT, bin_int, addI, bind_some', incI (by omega), apE]
        rw [ih (i + 1) _ hi (by omega) (by simp; omega), List.drop_eq_getElem_cons hi, mapK, List.append_assoc, List.singleton_append]
      · rw [ltF hi, condF, List.drop_of_length_le (by omega), mapK, List.append_nil]
  refine evw_run primsC (c.kids.length + 1) rfl rfl rfl ?_
  rw [nf98]
  simp only [aggS, bind_some', Core.cells_len, show Nat.beq 11 11 = true from rfl, condT, Core.c0, Core.c1, Core.c2, Core.c3, Core.c4, Core.c5, Core.c6, Core.c7, Core.c8, Core.c9, Core.c10, lenA54, List.length_map]
  rw [withK_cells]
  exact loop _ _ _ _ _ _ _ _ _ _ _ _ _ _ _ _ _ _ _ _ _ (c.kids.length + 1) 0 [] (Nat.zero_le _) (by omega) rfl

/- Bare -/
theorem bare46 : ∀ (c : Core) (h : Heap), c.Slim → evw E 46 [.agg c.cells] h = some (.ret (.agg c.bare.cells), h)
  | c, h, sl => by
    have rc : ∀ i (hi : i < c.kids.length), evw E 46 [.agg (c.kids[i]).cells] h = some (.ret (.agg (c.kids[i]).bare.cells), h) := fun i hi => bare46 c.kids[i] h (sl.kid (List.getElem_mem hi))
    have r99 : ∀ i (hi : i < c.kids.length), applyV (evw E) (.fn 99 [] []) [.lit (.int .i64 (i : Int)), .agg (c.kids[i]).cells] h = some (.ret (.agg (c.kids[i]).bare.cells), h) := fun i hi => by
      rw [apply_fn]
      refine evw_run primsC 0 rfl rfl rfl ?_
      rw [nf99, aggS, bind_some', Core.cells_len, show Nat.beq 11 11 = true from rfl, condT, Core.re, rc i hi, onOut_ret, aggS, bind_some', Core.cells_len, show Nat.beq 11 11 = true from rfl, condT, Core.re]
    have ht := turned98 c (.fn 99 [] []) (fun _ k => k.bare) sl.len h r99
    refine evw_run primsC 0 rfl rfl rfl ?_
    rw [nf46]
    simp only [aggS, bind_some', Core.cells_len, show Nat.beq 11 11 = true from rfl, condT, Core.re, ht, onOut_ret]
    simp only [Core.c0, Core.c1, Core.c2, Core.c3, Core.c4, Core.c8, Core.c9, Core.c10, bin_int, eqlE, boolB, bind_some', lenA54, List.length_map, len_eqd]
    cases e1 : eqd c.k 12 with
    | false =>
      rw [condF, Core.bare_eq c (by rw [e1, Bool.false_and]), Core.cells_eq]; rfl
    | true =>
      rw [condT]
      cases e2 : eqd c.kids.length 1 with
      | false => rw [condF, Core.bare_eq c (by rw [e2, Bool.and_false]), Core.cells_eq]; rfl
      | true =>
        have hlen := eqd_iff.1 e2
        have h0 : 0 < c.kids.length := by omega
        have := indexA_map c.kids Core.cells 11 0 h0
        rw [show ((0 : Nat) : Int) = 0 from rfl] at this
        rw [condT, this, bind_some', partA_full (Core.cells_len _), bind_some', rc 0 h0, onOut_ret, aggS, bind_some', Core.cells_len, show Nat.beq 11 11 = true from rfl, condT]
        rw [Core.bare_cast c c.kids[0] (eqd_iff.1 e1) (one_get hlen h0), Core.re]
  termination_by c => SizeOf.sizeOf c
  decreasing_by exact Core.size_kid hi

theorem bare47 : ∀ (c : Core) (h : Heap), c.Slim → evw E 47 [.agg c.cells] h = some (.ret (.agg c.bare.cells), h)
  | c, h, sl => by
    have rc : ∀ i (hi : i < c.kids.length), evw E 47 [.agg (c.kids[i]).cells] h = some (.ret (.agg (c.kids[i]).bare.cells), h) := fun i hi => bare47 c.kids[i] h (sl.kid (List.getElem_mem hi))
    have hl := sl.len
    have loop : ∀ (y0 y1 y2 y3 y4 y5 y6 y7 y8 y10 x23 x24 x25 x26 x27 x28 x29 : AV) (z30 z31 z32 z33 : List (List AV)) (x34 x35 x36 x37 x38 x39 x40 : AV) (z41 : List (List AV)) (x42 x44 : AV) (q i : Nat) (acc : List Core), i ≤ c.kids.length → c.kids.length < q + i → acc.length = i → Lp47_0 (evw E) (c.kids.length + 1) h q h y0 y1 y2 y3 y4 y5 y6 y7 y8 (.sl 11 (c.kids.map Core.cells)) y10 x23 x24 x25 x26 x27 x28 x29 z30 z31 z32 z33 x34 x35 x36 x37 x38 x39 x40 z41 x42 (acc.map Core.cells) x44 (.lit (.int .i64 (i : Int))) = some (.ret (.agg [x34, x35, x36, x37, x38, x39, x40, .sl 5 z41, x42, .sl 11 ((acc ++ mapK (fun _ k => k.bare) i (c.kids.drop i)).map Core.cells), x44]), h) := by
      intro y0 y1 y2 y3 y4 y5 y6 y7 y8 y10 x23 x24 x25 x26 x27 x28 x29 z30 z31 z32 z33 x34 x35 x36 x37 x38 x39 x40 z41 x42 x44 q
      induction q with
      | zero => intro i acc h1 h2; omega
      | succ q ih =>
        intro i acc h1 h2 h3
        rw [Lp47_0_succ, lenA54, bind_some', bin_int, lssI, bind_some', boolB, bind_some', List.length_map]
        by_cases hi : i < c.kids.length
        · rw [ltT hi, condT, indexA_map _ _ _ _ hi, bind_some', partA_full (Core.cells_len _), bind_some', rc i hi, onOut_ret, aggS, bind_some', Core.cells_len, show Nat.beq 11 11 = true from rfl, condT, Core.re, apC _ _ (by omega), condT, bin_int, addI, bind_some', incI (by omega), apE]
          rw [ih (i + 1) _ hi (by omega) (by simp; omega), List.drop_eq_getElem_cons hi, mapK, List.append_assoc, List.singleton_append]
        · rw [ltF hi, condF, List.drop_of_length_le (by omega), mapK, List.append_nil]
    refine evw_run primsC (c.kids.length + 1) rfl rfl rfl ?_
    rw [nf47]
    simp only [aggS, bind_some', Core.cells_len, show Nat.beq 11 11 = true from rfl, condT, Core.c0, Core.c1, Core.c2, Core.c3, Core.c4, Core.c5, Core.c6, Core.c7, Core.c8, Core.c9, Core.c10, bin_int, eqlE, boolB, lenA54, List.length_map, len_eqd]
    have fin : ∀ (y0 y1 y2 y3 y4 y5 y6 y7 y8 y10 x23 x24 x25 x26 x27 x28 x29 : AV) (z30 z31 z32 z33 : List (List AV)), (eqd c.k 12 && eqd c.kids.length 1) = false → Lp47_0 (evw E) (c.kids.length + 1) h (c.kids.length + 1) h y0 y1 y2 y3 y4 y5 y6 y7 y8 (.sl 11 (c.kids.map Core.cells)) y10 x23 x24 x25 x26 x27 x28 x29 z30 z31 z32 z33 (.lit (.int .i64 c.k)) (.lit (.int .i64 c.n)) (.lit (.int .i64 c.m)) (.lit (.bool c.inn)) (.lit (.string c.name)) (.lit (.string ByteArray.empty)) (.lit (.int .i64 0)) [] (.sl 1 (c.labels.map strC)) [] (.sl 10 (c.vals.map Val.cells)) (.lit (.int .i64 0)) = some (.ret (.agg c.bare.cells), h) := by
      intro y0 y1 y2 y3 y4 y5 y6 y7 y8 y10 x23 x24 x25 x26 x27 x28 x29 z30 z31 z32 z33 hc
      rw [Core.bare_eq c hc, Core.cells_eq]
      exact loop _ _ _ _ _ _ _ _ _ _ _ _ _ _ _ _ _ _ _ _ _ _ _ _ _ _ _ _ _ _ _ (c.kids.length + 1) 0 [] (Nat.zero_le _) (by omega) rfl
    cases e1 : eqd c.k 12 with
    | false => rw [condF]; exact fin _ _ _ _ _ _ _ _ _ _ _ _ _ _ _ _ _ _ _ _ _ (by rw [e1, Bool.false_and])
    | true =>
      rw [condT]
      cases e2 : eqd c.kids.length 1 with
      | false => rw [condF]; exact fin _ _ _ _ _ _ _ _ _ _ _ _ _ _ _ _ _ _ _ _ _ (by rw [e2, Bool.and_false])
      | true =>
        have hlen := eqd_iff.1 e2
        have h0 : 0 < c.kids.length := by omega
        have := indexA_map c.kids Core.cells 11 0 h0
        rw [show ((0 : Nat) : Int) = 0 from rfl] at this
        rw [condT, this, bind_some', partA_full (Core.cells_len _), bind_some', rc 0 h0, onOut_ret, aggS, bind_some', Core.cells_len, show Nat.beq 11 11 = true from rfl, condT]
        rw [Core.bare_cast c c.kids[0] (eqd_iff.1 e1) (one_get hlen h0), Core.re]
  termination_by c => SizeOf.sizeOf c
  decreasing_by exact Core.size_kid hi

/- Put -/
theorem put53 (s : ByteArray) (v : Val) : ∀ (c : Core) (h : Heap), c.Slim → evw E 53 [.agg c.cells, .lit (.string s), .agg v.cells] h = some (.ret (.agg (c.put s v).cells), h)
  | c, h, sl => by
    have rc : ∀ i (hi : i < c.kids.length), evw E 53 [.agg (c.kids[i]).cells, .lit (.string s), .agg v.cells] h = some (.ret (.agg ((c.kids[i]).put s v).cells), h) := fun i hi => put53 s v c.kids[i] h (sl.kid (List.getElem_mem hi))
    have hl := sl.len
    have loop : ∀ (y1 y2 y3 y5 y6 y7 y8 y10 v0 v1 v2 v3 v4 v5 v6 v7 v8 v9 x23 x24 x25 x26 x27 x28 x29 : AV) (z30 z31 z32 z33 : List (List AV)) (x34 x35 x36 x37 x38 x39 x40 x41 x42 x44 : AV), [v0, v1, v2, v3, v4, v5, v6, v7, v8, v9] = v.cells → ∀ (q i : Nat) (acc : List Core), i ≤ c.kids.length → c.kids.length < q + i → acc.length = i → Lp53_0 (evw E) (c.kids.length + 1) h q h (.lit (.string s)) (.lit (.int .i64 c.k)) y1 y2 y3 (.lit (.string c.name)) y5 y6 y7 y8 (.sl 11 (c.kids.map Core.cells)) y10 v0 v1 v2 v3 v4 v5 v6 v7 v8 v9 x23 x24 x25 x26 x27 x28 x29 z30 z31 z32 z33 x34 x35 x36 x37 x38 x39 x40 x41 x42 (acc.map Core.cells) x44 (.lit (.int .i64 (i : Int))) = some (.ret (.agg [x34, x35, x36, x37, x38, x39, x40, x41, x42, .sl 11 ((acc ++ mapK (putG s v c.k c.name) i (c.kids.drop i)).map Core.cells), x44]), h) := by
      intro y1 y2 y3 y5 y6 y7 y8 y10 v0 v1 v2 v3 v4 v5 v6 v7 v8 v9 x23 x24 x25 x26 x27 x28 x29 z30 z31 z32 z33 x34 x35 x36 x37 x38 x39 x40 x41 x42 x44 hv q
      induction q with
      | zero => intro i acc h1 h2; omega
      | succ q ih =>
        intro i acc h1 h2 h3
        rw [Lp53_0_succ, lenA54, bind_some', bin_int, lssI, bind_some', boolB, bind_some', List.length_map]
        by_cases hi : i < c.kids.length
        · have next := fun x => ih (i + 1) (acc ++ [x]) hi (by omega) (by simp; omega)
          simp only [bin_int, bin_str, eqSt, eqlE, bind_some', boolB]
          simp only [ltT hi, condT, indexA_map _ _ _ _ hi, bind_some', partA_full (Core.cells_len _), hv, rc i hi, onOut_ret, aggS, Core.cells_len, show Nat.beq 11 11 = true from rfl, Core.re, apC _ _ (show acc.length ≤ 1048576 by omega), addI, incI (show i < 9223372036854775807 by omega), apE, next, List.append_assoc, List.singleton_append]
          rw [List.drop_eq_getElem_cons hi, mapK]
          unfold putG hold
          cases eqd c.name s with
          | false => rfl
          | true =>
            cases eqd c.k 7 with
            | true => rfl
            | false =>
              cases eqd c.k 5 with
              | false => rfl
              | true =>
                cases eqd (i : Int) 1 with
                | false => rfl
                | true => rfl
        · rw [ltF hi, condF, List.drop_of_length_le (by omega), mapK, List.append_nil]
    refine evw_run primsC (c.kids.length + 1) rfl rfl rfl ?_
    rw [nf53]
    simp only [aggS, bind_some', Core.cells_len, Val.cells_len, show Nat.beq 11 11 = true from rfl, show Nat.beq 10 10 = true from rfl, condT, Core.c0, Core.c1, Core.c2, Core.c3, Core.c4, Core.c5, Core.c6, Core.c7, Core.c8, Core.c9, Core.c10, bin_int, bin_str, eqSt, eqlE, boolB]
    have fin : ∀ (y1 y2 y3 y5 y6 y7 y8 y10 x23 x24 x25 x26 x27 x28 x29 : AV) (z30 z31 z32 z33 : List (List AV)), (eqd c.k 4 && eqd c.name s) = false → Lp53_0 (evw E) (c.kids.length + 1) h (c.kids.length + 1) h (.lit (.string s)) (.lit (.int .i64 c.k)) y1 y2 y3 (.lit (.string c.name)) y5 y6 y7 y8 (.sl 11 (c.kids.map Core.cells)) y10 (v.cells.getD 0 .dead) (v.cells.getD 1 .dead) (v.cells.getD 2 .dead) (v.cells.getD 3 .dead) (v.cells.getD 4 .dead) (v.cells.getD 5 .dead) (v.cells.getD 6 .dead) (v.cells.getD 7 .dead) (v.cells.getD 8 .dead) (v.cells.getD 9 .dead) x23 x24 x25 x26 x27 x28 x29 z30 z31 z32 z33 (.lit (.int .i64 c.k)) (.lit (.int .i64 c.n)) (.lit (.int .i64 c.m)) (.lit (.bool c.inn)) (.lit (.string c.name)) (.lit (.string c.df)) (.lit (.int .i64 c.nd)) (.sl 5 (c.types.map Ty.cells)) (.sl 1 (c.labels.map strC)) [] (.sl 10 (c.vals.map Val.cells)) (.lit (.int .i64 0)) = some (.ret (.agg (c.put s v).cells), h) := by
      intro y1 y2 y3 y5 y6 y7 y8 y10 x23 x24 x25 x26 x27 x28 x29 z30 z31 z32 z33 hc
      rw [Core.put_eq, hc, cond_false, withK_cells]
      exact loop _ _ _ _ _ _ _ _ _ _ _ _ _ _ _ _ _ _ _ _ _ _ _ _ _ _ _ _ _ _ _ _ _ _ _ _ _ _ _ (Val.re v) (c.kids.length + 1) 0 [] (Nat.zero_le _) (by omega) rfl
    cases e1 : eqd c.k 4 with
    | false => rw [condF]; exact fin _ _ _ _ _ _ _ _ _ _ _ _ _ _ _ _ _ _ _ (by rw [e1, Bool.false_and])
    | true =>
      rw [condT]
      cases e2 : eqd c.name s with
      | false => rw [condF]; exact fin _ _ _ _ _ _ _ _ _ _ _ _ _ _ _ _ _ _ _ (by rw [e2, Bool.and_false])
      | true => rw [condT, Val.re, Core.put_eq, e1, e2, Bool.and_self, cond_true, valNode_cells]
  termination_by c => SizeOf.sizeOf c
  decreasing_by exact Core.size_kid hi

def heapP (h0 : Heap) (c : Core) (s : ByteArray) (v : Val) : Heap := h0 ++ [c.cells.map Cell.v, [.v (.lit (.string s))], v.cells.map Cell.v]
theorem heapP_k (h0 : Heap) (c : Core) (s : ByteArray) (v : Val) : hpart false 1 0 h0.length (heapP h0 c s v) = some (.lit (.int .i64 c.k)) := by unfold heapP; rw [hpart_app0, Core.cells_eq]; rfl
theorem heapP_n (h0 : Heap) (c : Core) (s : ByteArray) (v : Val) : hpart false 1 4 h0.length (heapP h0 c s v) = some (.lit (.string c.name)) := by unfold heapP; rw [hpart_app0, Core.cells_eq]; rfl
theorem heapP_c (h0 : Heap) (c : Core) (s : ByteArray) (v : Val) : hpart true 11 0 h0.length (heapP h0 c s v) = some (.agg c.cells) := by unfold heapP; rw [hpart_app0, Core.cells_eq]; rfl
theorem heapP_s (h0 : Heap) (c : Core) (s : ByteArray) (v : Val) : hpart false 1 0 (h0.length + 1) (heapP h0 c s v) = some (.lit (.string s)) := by unfold heapP; rw [hpart_app]; rfl
theorem heapP_v (h0 : Heap) (c : Core) (s : ByteArray) (v : Val) : hpart true 10 0 (h0.length + 2) (heapP h0 c s v) = some (.agg v.cells) := by unfold heapP; rw [hpart_app, Val.cells_eq]; rfl

theorem strs_lt (m : Nat) (ls : List ByteArray) : AV.lt m (.sl 1 (ls.map strC)) := .sl _ fun e he v hv => by
  obtain ⟨s, _, rfl⟩ := List.mem_map.1 he
  rw [List.mem_singleton.1 hv]; exact .lit _
theorem tys_lt (m : Nat) (ts : List Ty) : AV.lt m (.sl 5 (ts.map Ty.cells)) := .sl _ fun e he v hv => by
  obtain ⟨s, _, rfl⟩ := List.mem_map.1 he
  exact Ty.cells_lt m s v hv
theorem Val.cells_lt (m : Nat) : ∀ c : Val, ∀ a ∈ c.cells, AV.lt m a
  | c, a, ha => by
    rw [Val.cells_eq] at ha
    simp only [List.mem_cons, List.not_mem_nil, or_false] at ha
    rcases ha with e | e | e | e | e | e | e | e | e | e <;> first | (rw [e]; exact .lit _) | (rw [e]; exact tys_lt m _) | (rw [e]; exact strs_lt m _) | skip
    rw [e]
    refine .sl _ fun es he v hv => ?_
    obtain ⟨s, hs, rfl⟩ := List.mem_map.1 he
    exact Val.cells_lt m s v hv
  termination_by c => SizeOf.sizeOf c
  decreasing_by
    have := List.sizeOf_lt_of_mem hs
    cases c; simp only [Val.mk.sizeOf_spec] at *; omega
theorem vals_lt (m : Nat) (ts : List Val) : AV.lt m (.sl 10 (ts.map Val.cells)) := .sl _ fun e he v hv => by
  obtain ⟨s, _, rfl⟩ := List.mem_map.1 he
  exact Val.cells_lt m s v hv
theorem Core.cells_lt (m : Nat) : ∀ c : Core, ∀ a ∈ c.cells, AV.lt m a
  | c, a, ha => by
    rw [Core.cells_eq] at ha
    simp only [List.mem_cons, List.not_mem_nil, or_false] at ha
    rcases ha with e | e | e | e | e | e | e | e | e | e | e <;> first | (rw [e]; exact .lit _) | (rw [e]; exact tys_lt m _) | (rw [e]; exact strs_lt m _) | (rw [e]; exact vals_lt m _) | skip
    rw [e]
    refine .sl _ fun es he v hv => ?_
    obtain ⟨s, hs, rfl⟩ := List.mem_map.1 he
    exact Core.cells_lt m s v hv
  termination_by c => SizeOf.sizeOf c
  decreasing_by exact Core.kid_lt hs

theorem put52 (s : ByteArray) (v : Val) : ∀ (c : Core) (h : Heap), c.Slim → evw E 52 [.agg c.cells, .lit (.string s), .agg v.cells] h = some (.ret (.agg (c.put s v).cells), h)
  | c, h0, sl => by
    have rc : ∀ h i (hi : i < c.kids.length), evw E 52 [.agg (c.kids[i]).cells, .lit (.string s), .agg v.cells] h = some (.ret (.agg ((c.kids[i]).put s v).cells), h) := fun h i hi => put52 s v c.kids[i] h (sl.kid (List.getElem_mem hi))
    have r105 : ∀ i (hi : i < c.kids.length), applyV (evw E) (.fn 105 [] [.hp h0.length 0, .hp (h0.length + 1) 0, .hp (h0.length + 2) 0]) [.lit (.int .i64 (i : Int)), .agg (c.kids[i]).cells] (heapP h0 c s v) = some (.ret (.agg (putG s v c.k c.name i c.kids[i]).cells), heapP h0 c s v) := fun i hi => by
      rw [applyS]
      show evw E 105 [.lit (.int .i64 (i : Int)), .agg (c.kids[i]).cells, .hp h0.length 0, .hp (h0.length + 1) 0, .hp (h0.length + 2) 0] _ = _
      refine evw_run primsC 0 rfl rfl rfl ?_
      rw [nf105]
      simp only [aggS, bind_some', Core.cells_len, show Nat.beq 11 11 = true from rfl, condT, Core.re, heapP_k, heapP_n, heapP_s, heapP_v, bin_int, bin_str, eqSt, eqlE, boolB, rc _ i hi, onOut_ret]
      unfold putG hold
      cases eqd c.name s with
      | false => rfl
      | true =>
        cases eqd c.k 7 with
        | true => rfl
        | false =>
          cases eqd c.k 5 with
          | false => rfl
          | true =>
            cases eqd (i : Int) 1 with
            | false => rfl
            | true => rfl
    have ht := turned98 c _ (putG s v c.k c.name) sl.len _ r105
    refine evw_run primsC 0 rfl rfl rfl ?_
    rw [nf52]
    have hone : AV.one (.lit (.string s)) = true := rfl
    have hH : ((h0 ++ ([[.v (c.cells.getD 0 .dead), .v (c.cells.getD 1 .dead), .v (c.cells.getD 2 .dead), .v (c.cells.getD 3 .dead), .v (c.cells.getD 4 .dead), .v (c.cells.getD 5 .dead), .v (c.cells.getD 6 .dead), .v (c.cells.getD 7 .dead), .v (c.cells.getD 8 .dead), .v (c.cells.getD 9 .dead), .v (c.cells.getD 10 .dead)]] : Heap)) ++ ([[.v (.lit (.string s))]] : Heap)) ++ ([[.v (v.cells.getD 0 .dead), .v (v.cells.getD 1 .dead), .v (v.cells.getD 2 .dead), .v (v.cells.getD 3 .dead), .v (v.cells.getD 4 .dead), .v (v.cells.getD 5 .dead), .v (v.cells.getD 6 .dead), .v (v.cells.getD 7 .dead), .v (v.cells.getD 8 .dead), .v (v.cells.getD 9 .dead)]] : Heap) = heapP h0 c s v := by
      unfold heapP
      rw [Core.cells_eq, Val.cells_eq, List.append_assoc, List.append_assoc]; rfl
    have hL1 : ∀ x : List Cell, (h0 ++ ([x] : Heap)).length = h0.length + 1 := fun x => by simp
    have hL2 : ∀ x y : List Cell, ((h0 ++ ([x] : Heap)) ++ ([y] : Heap)).length = h0.length + 2 := fun x y => by simp
    simp only [aggS, bind_some', Core.cells_len, Val.cells_len, show Nat.beq 11 11 = true from rfl, show Nat.beq 10 10 = true from rfl, condT, hone, hH, hL1, hL2, heapP_k, heapP_n, heapP_s, heapP_v, heapP_c, bin_int, bin_str, eqSt, eqlE, boolB, ht, onOut_ret, Core.re, Val.re]
    have tr : ∀ x : Core, trunc (E.hint 52) h0 (.ret (.agg x.cells)) (heapP h0 c s v) = some (.ret (.agg x.cells), h0) := fun x => by
      unfold heapP; exact trunc_app (H := E.hint 52) (by kernel_rfl) (AV.lt.agg (Core.cells_lt _ x))
    have e1 := tr (valNode v)
    rw [valNode_cells] at e1
    rw [tr, e1, Core.put_eq]
    cases eqd c.k 4 with
    | false => rfl
    | true =>
      cases eqd c.name s with
      | false => rfl
      | true => rw [condT, condT, Bool.and_self, cond_true, valNode_cells]
  termination_by c => SizeOf.sizeOf c
  decreasing_by exact Core.size_kid hi

/- CoreTwice -/
theorem coreTwice_row (c : Core) (oc : c.Ok) (s : ByteArray) (os : s.size ≤ maxLen) (t : ByteArray) (ot : t.size ≤ maxLen) (v : Val) (ov : v.Ok) (w : Val) (ow : w.Ok) (sl : c.Slim) (_ : List Nat) : evw E 8 [.agg c.cells, .lit (.string s), .lit (.string t), .agg v.cells, .agg w.cells] [] = some (.ret (.lit (.bool true)), []) := by
  have sp := fun x y => Core.put_slim x y c sl
  refine evw_run primsC 0 rfl rfl rfl ?_
  rw [nf8]
  simp only [aggS, bind_some', Core.cells_len, Val.cells_len, show Nat.beq 11 11 = true from rfl, show Nat.beq 10 10 = true from rfl, condT, Core.re, Val.re, much36 _ _ oc, much48 _ _ ov, much48 _ _ ow, onOut_ret, bin_int, gtrI, boolB, awake37, bin_str, eqSt]
  cases decide (c.much > 500) with
  | true => rfl
  | false =>
  cases decide (v.much > 200) with
  | true => rfl
  | false =>
  cases decide (w.much > 200) with
  | true => rfl
  | false =>
  cases hst : eqd s t with
  | true => rfl
  | false =>
    have hne : s ≠ t := fun e => by rw [e, eqd_self] at hst; cases hst
    simp only [condF, put52 s v c _ sl, put52 t w c _ sl, put52 t w _ _ (sp s v), put52 s v _ _ (sp t w), put52 s w _ _ (sp s v), bare46 c _ sl, onOut_ret, aggS, bind_some', Core.cells_len, show Nat.beq 11 11 = true from rfl, condT, Core.re]
    simp only [put_put hne v w c, same45 _ _ _ (Core.put_ok s ov _ (Core.put_ok t ow c oc)), eqd_self, onOut_ret, notB, bind_some', boolB, Bool.not_true, condF, put_again, same45 _ _ _ (Core.put_ok s ov c oc), bare46 _ _ (Core.bare_slim c sl), bare_bare, same45 _ _ _ (Core.bare_ok c oc), bare46 _ _ (sp s v), put52 s v _ _ (Core.bare_slim c sl), bare_put, same45 _ _ _ (Core.put_ok s ov _ (Core.bare_ok c oc)), condT, awake37]
end Go.Sh.T

/- Seals put in terms. -/
namespace Go.Sh.T
open Go Go.Sh
set_option linter.unusedSimpArgs false
set_option linter.unusedVariables false
set_option maxRecDepth 100000

mutual
def Core.seal (names : List ByteArray) (fr : Int) : Core → Core
  | ⟨k, n, m, b, nm, d, e, ts, ls, xs, vs⟩ => ⟨k, n, m, b, nm, d, e, ts.map (sealT names fr), ls, Core.sealL names fr xs, vs⟩
def Core.sealL (names : List ByteArray) (fr : Int) : List Core → List Core
  | [] => []
  | c :: r => c.seal names fr :: Core.sealL names fr r
end
theorem Core.sealL_map (names : List ByteArray) (fr : Int) : ∀ l : List Core, Core.sealL names fr l = mapK (fun _ c => c.seal names fr) 0 l := by
  have : ∀ (l : List Core) (i : Nat), Core.sealL names fr l = mapK (fun _ c => c.seal names fr) i l := by
    intro l
    induction l with
    | nil => intro i; rw [Core.sealL, mapK]
    | cons c r ih => intro i; rw [Core.sealL, mapK, ih (i + 1)]
  exact fun l => this l 0
theorem Core.seal_eq (names : List ByteArray) (fr : Int) (c : Core) : c.seal names fr = { c with types := c.types.map (sealT names fr), kids := mapK (fun _ c => c.seal names fr) 0 c.kids } := by
  cases c; rw [Core.seal, Core.sealL_map]

theorem seal87 (names : List ByteArray) (hn : names.length ≤ maxLen) (fr : Int) (t : Ty) (h : Heap) (ok : t.Ok) (hv : t.vol ≤ 1048576) : evw E 87 [.agg t.cells, .sl 1 (names.map strC), .lit (.int .i64 fr)] h = some (.ret (.agg (sealT names fr t).cells), h) := by
  refine evw_run primsC 0 rfl rfl rfl ?_
  rw [nf87, aggS, bind_some', Ty.cells_len, show Nat.beq 5 5 = true from rfl, condT, Ty.refold, bin_int, lssI, bind_some', boolB, bind_some']
  unfold sealT
  cases decide (fr < 0) with
  | true => rfl
  | false =>
    rw [condF, lenA31, bind_some', bin_int, subI, bind_some', bin_int, gtrI, bind_some', boolB, bind_some', List.length_map, Bool.false_or]
    cases decide (fr > sub64 1073741824 (names.length : Int)) with
    | true => rfl
    | false => rw [condF, cond_false, sealed_ref names hn fr t h ok hv, onOut_ret, aggS, bind_some', Ty.cells_len, show Nat.beq 5 5 = true from rfl, condT, Ty.refold]

theorem apT (acc : List Ty) (x : Ty) (h : acc.length ≤ 1048576) : Nat.ble ((acc.map Ty.cells).length + ([x.cells] : List (List AV)).length) maxApp = true := by
  rw [Nat.ble_eq]; unfold maxApp; simp; omega
theorem apTE (acc : List Ty) (x : Ty) : acc.map Ty.cells ++ [x.cells] = (acc ++ [x]).map Ty.cells := by simp
theorem Ty.vol_pos (c : Ty) : 1 ≤ volC c.cells := by
  rw [Ty.cells_eq]; simp only [volC, Sh.vol]; omega
theorem Core.types_len {c : Core} (h : c.vol ≤ 1048576) : c.types.length ≤ 1048576 := Nat.le_trans (Nat.le_trans (volE_len Ty.cells Ty.vol_pos _) c.vol_types) h
theorem Core.type_vol {c : Core} (h : c.vol ≤ 1048576) {t : Ty} (ht : t ∈ c.types) : t.vol ≤ 1048576 := Nat.le_trans (Nat.le_trans (volE_mem Ty.cells _ _ ht) c.vol_types) h

theorem seal55 (names : List ByteArray) (hn : names.length ≤ maxLen) (fr : Int) : ∀ (c : Core) (h : Heap), c.Ok → c.vol ≤ 1048576 → evw E 55 [.agg c.cells, .sl 1 (names.map strC), .lit (.int .i64 fr)] h = some (.ret (.agg (c.seal names fr).cells), h)
  | c, h, oc, hv => by
    have rc : ∀ i (hi : i < c.kids.length), evw E 55 [.agg (c.kids[i]).cells, .sl 1 (names.map strC), .lit (.int .i64 fr)] h = some (.ret (.agg ((c.kids[i]).seal names fr).cells), h) := fun i hi => seal55 names hn fr c.kids[i] h (oc.kid (List.getElem_mem hi)) (Nat.le_trans (Core.vol_kid (List.getElem_mem hi)) hv)
    have hl := (Core.slim_vol c hv).len
    have htl := Core.types_len hv
    have loop1 : ∀ (y0 y1 y2 y3 y4 y5 y6 y7 y8 y10 x23 x24 x25 x26 x27 x28 x29 : AV) (z30 z31 z32 z33 : List (List AV)) (x34 x35 x36 x37 x38 x39 x40 : AV) (z41 : List (List AV)) (x42 x44 : AV) (q i : Nat) (acc : List Core), i ≤ c.kids.length → c.kids.length < q + i → acc.length = i → Lp55_1 (evw E) (c.kids.length + c.types.length + 1) h q h (.sl 1 (names.map strC)) (.lit (.int .i64 fr)) y0 y1 y2 y3 y4 y5 y6 y7 y8 (.sl 11 (c.kids.map Core.cells)) y10 x23 x24 x25 x26 x27 x28 x29 z30 z31 z32 z33 x34 x35 x36 x37 x38 x39 x40 z41 x42 (acc.map Core.cells) x44 (.lit (.int .i64 (i : Int))) = some (.ret (.agg [x34, x35, x36, x37, x38, x39, x40, .sl 5 z41, x42, .sl 11 ((acc ++ mapK (fun _ k => k.seal names fr) i (c.kids.drop i)).map Core.cells), x44]), h) := by
      intro y0 y1 y2 y3 y4 y5 y6 y7 y8 y10 x23 x24 x25 x26 x27 x28 x29 z30 z31 z32 z33 x34 x35 x36 x37 x38 x39 x40 z41 x42 x44 q
      induction q with
      | zero => intro i acc h1 h2; omega
      | succ q ih =>
        intro i acc h1 h2 h3
        rw [Lp55_1_succ, lenA54, bind_some', bin_int, lssI, bind_some', boolB, bind_some', List.length_map]
        by_cases hi : i < c.kids.length
        · rw [ltT hi, condT, indexA_map _ _ _ _ hi, bind_some', partA_full (Core.cells_len _), bind_some', rc i hi, onOut_ret, aggS, bind_some', Core.cells_len, show Nat.beq 11 11 = true from rfl, condT, Core.re, apC _ _ (by omega), condT, bin_int, addI, bind_some', incI (by omega), apE]
          rw [ih (i + 1) _ hi (by omega) (by simp; omega), List.drop_eq_getElem_cons hi, mapK, List.append_assoc, List.singleton_append]
        · rw [ltF hi, condF, List.drop_of_length_le (by omega), mapK, List.append_nil]
    have loop0 : ∀ (y0 y1 y2 y3 y4 y5 y6 y8 y10 x23 x24 x25 x26 x27 x28 x29 : AV) (z30 z31 z32 z33 : List (List AV)) (x34 x35 x36 x37 x38 x39 x40 x42 x43 x44 : AV) (q i : Nat) (acc : List Ty), i ≤ c.types.length → c.types.length < q + i → acc.length = i → Lp55_0 (evw E) (c.kids.length + c.types.length + 1) h q h (.sl 1 (names.map strC)) (.lit (.int .i64 fr)) y0 y1 y2 y3 y4 y5 y6 (.sl 5 (c.types.map Ty.cells)) y8 (.sl 11 (c.kids.map Core.cells)) y10 x23 x24 x25 x26 x27 x28 x29 z30 z31 z32 z33 x34 x35 x36 x37 x38 x39 x40 (acc.map Ty.cells) x42 x43 x44 (.lit (.int .i64 (i : Int))) = some (.ret (.agg [x34, x35, x36, x37, x38, x39, x40, .sl 5 ((acc ++ (c.types.drop i).map (sealT names fr)).map Ty.cells), x42, .sl 11 ((mapK (fun _ k => k.seal names fr) 0 c.kids).map Core.cells), x44]), h) := by
      intro y0 y1 y2 y3 y4 y5 y6 y8 y10 x23 x24 x25 x26 x27 x28 x29 z30 z31 z32 z33 x34 x35 x36 x37 x38 x39 x40 x42 x43 x44 q
      induction q with
      | zero => intro i acc h1 h2; omega
      | succ q ih =>
        intro i acc h1 h2 h3
        rw [Lp55_0_succ, lenA29, bind_some', bin_int, lssI, bind_some', boolB, bind_some', List.length_map]
        by_cases hi : i < c.types.length
        · rw [ltT hi, condT, indexA_map _ _ _ _ hi, bind_some', partA_full (Ty.cells_len _), bind_some', seal87 names hn fr _ h (oc.ty (List.getElem_mem hi)) (Core.type_vol hv (List.getElem_mem hi)), onOut_ret, aggS, bind_some', Ty.cells_len, show Nat.beq 5 5 = true from rfl, condT, Ty.re, apT _ _ (by omega), condT, bin_int, addI, bind_some', incI (by omega), apTE]
          rw [ih (i + 1) _ hi (by omega) (by simp; omega), List.drop_eq_getElem_cons hi, List.map_cons, List.append_assoc, List.singleton_append]
        · rw [ltF hi, condF, List.drop_of_length_le (by omega), List.map_nil, List.append_nil]
          exact loop1 _ _ _ _ _ _ _ _ _ _ _ _ _ _ _ _ _ _ _ _ _ _ _ _ _ _ _ _ _ _ _ (c.kids.length + c.types.length + 1) 0 [] (Nat.zero_le _) (by omega) rfl
    refine evw_run primsC (c.kids.length + c.types.length + 1) rfl rfl rfl ?_
    rw [nf55]
    simp only [aggS, bind_some', Core.cells_len, show Nat.beq 11 11 = true from rfl, condT, Core.c0, Core.c1, Core.c2, Core.c3, Core.c4, Core.c5, Core.c6, Core.c7, Core.c8, Core.c9, Core.c10]
    rw [Core.seal_eq, Core.cells_eq]
    exact loop0 _ _ _ _ _ _ _ _ _ _ _ _ _ _ _ _ _ _ _ _ _ _ _ _ _ _ _ _ _ _ (c.kids.length + c.types.length + 1) 0 [] (Nat.zero_le _) (by omega) rfl
  termination_by c => SizeOf.sizeOf c
  decreasing_by exact Core.size_kid hi

def heapS (h0 : Heap) (names : List ByteArray) (fr : Int) : Heap := h0 ++ [[.v (.sl 1 (names.map strC))], [.v (.lit (.int .i64 fr))]]
theorem heapS_n (h0 : Heap) (names : List ByteArray) (fr : Int) : hpart false 1 0 h0.length (heapS h0 names fr) = some (.sl 1 (names.map strC)) := by unfold heapS; rw [hpart_app0]; rfl
theorem heapS_f (h0 : Heap) (names : List ByteArray) (fr : Int) : hpart false 1 0 (h0.length + 1) (heapS h0 names fr) = some (.lit (.int .i64 fr)) := by unfold heapS; rw [hpart_app]; rfl

theorem seal54 (names : List ByteArray) (hn : names.length ≤ maxLen) (fr : Int) : ∀ (c : Core) (h : Heap), c.Ok → c.vol ≤ 1048576 → evw E 54 [.agg c.cells, .sl 1 (names.map strC), .lit (.int .i64 fr)] h = some (.ret (.agg (c.seal names fr).cells), h)
  | c, h0, oc, hv => by
    have rc : ∀ h i (hi : i < c.kids.length), evw E 54 [.agg (c.kids[i]).cells, .sl 1 (names.map strC), .lit (.int .i64 fr)] h = some (.ret (.agg ((c.kids[i]).seal names fr).cells), h) := fun h i hi => seal54 names hn fr c.kids[i] h (oc.kid (List.getElem_mem hi)) (Nat.le_trans (Core.vol_kid (List.getElem_mem hi)) hv)
    have hl := (Core.slim_vol c hv).len
    have htl := Core.types_len hv
    have r106 : ∀ i (hi : i < c.kids.length), applyV (evw E) (.fn 106 [] [.hp h0.length 0, .hp (h0.length + 1) 0]) [.lit (.int .i64 (i : Int)), .agg (c.kids[i]).cells] (heapS h0 names fr) = some (.ret (.agg ((c.kids[i]).seal names fr).cells), heapS h0 names fr) := fun i hi => by
      rw [applyS]
      show evw E 106 [.lit (.int .i64 (i : Int)), .agg (c.kids[i]).cells, .hp h0.length 0, .hp (h0.length + 1) 0] _ = _
      refine evw_run primsC 0 rfl rfl rfl ?_
      rw [nf106]
      simp only [aggS, bind_some', Core.cells_len, show Nat.beq 11 11 = true from rfl, condT, Core.re, heapS_n, heapS_f, rc _ i hi, onOut_ret]
    have ht := turned98 c _ (fun _ k => k.seal names fr) hl _ r106
    have loop : ∀ (y0 y1 y2 y3 y4 y5 y6 : AV) (z0 z1 z2 z3 : List (List AV)) (x34 x35 x36 x37 x38 x39 x40 x42 x43 x44 : AV) (q i : Nat) (acc : List Ty), i ≤ c.types.length → c.types.length < q + i → acc.length = i → Lp54_0 (evw E) (c.types.length + 1) h0 q (heapS h0 names fr) h0.length (h0.length + 1) y0 y1 y2 y3 y4 y5 y6 z0 z1 z2 z3 x34 x35 x36 x37 x38 x39 x40 (acc.map Ty.cells) x42 x43 x44 (.sl 5 (c.types.map Ty.cells)) (.lit (.int .i64 (c.types.length : Int))) (.lit (.int .i64 (i : Int))) = trunc (E.hint 54) h0 (.ret (.agg [x34, x35, x36, x37, x38, x39, x40, .sl 5 ((acc ++ (c.types.drop i).map (sealT names fr)).map Ty.cells), x42, x43, x44])) (heapS h0 names fr) := by
      intro y0 y1 y2 y3 y4 y5 y6 z0 z1 z2 z3 x34 x35 x36 x37 x38 x39 x40 x42 x43 x44 q
      induction q with
      | zero => intro i acc h1 h2; omega
      | succ q ih =>
        intro i acc h1 h2 h3
        rw [Lp54_0_succ, bin_int, lssI, bind_some', boolB, bind_some']
        by_cases hi : i < c.types.length
        · rw [ltT hi, condT, indexA_map _ _ _ _ hi, bind_some', partA_full (Ty.cells_len _), bind_some', aggS, bind_some', Ty.cells_len, show Nat.beq 5 5 = true from rfl, condT, heapS_n, bind_some', heapS_f, bind_some', Ty.re, seal_prog86 names hn fr _ _ (oc.ty (List.getElem_mem hi)) (Core.type_vol hv (List.getElem_mem hi)), onOut_ret, aggS, bind_some', Ty.cells_len, show Nat.beq 5 5 = true from rfl, condT, Ty.re, apT _ _ (by omega), condT, bin_int, addI, bind_some', incI (by omega), apTE]
          rw [ih (i + 1) _ hi (by omega) (by simp; omega), List.drop_eq_getElem_cons hi, List.map_cons, List.append_assoc, List.singleton_append]
        · rw [ltF hi, condF, List.drop_of_length_le (by omega), List.map_nil, List.append_nil]
    refine evw_run primsC (c.types.length + 1) rfl rfl rfl ?_
    rw [nf54]
    have h1 : ∀ x : AV, AV.one x = true → True := fun _ _ => trivial
    have hone : AV.one (.lit (.int .i64 fr)) = true := rfl
    have hone' : AV.one (.sl 1 (names.map strC)) = true := rfl
    have hH : ((h0 ++ ([[.v (.sl 1 (names.map strC))]] : Heap)) ++ ([[.v (.lit (.int .i64 fr))]] : Heap)) = heapS h0 names fr := by
      unfold heapS; rw [List.append_assoc]; rfl
    have hL1 : ∀ x : List Cell, (h0 ++ ([x] : Heap)).length = h0.length + 1 := fun x => by simp
    simp only [aggS, bind_some', Core.cells_len, show Nat.beq 11 11 = true from rfl, condT, hone, hone', hH, hL1, Core.re, ht, onOut_ret]
    simp only [Core.c0, Core.c1, Core.c2, Core.c3, Core.c4, Core.c5, Core.c6, Core.c7, Core.c8, Core.c9, Core.c10, lenA29, bind_some', List.length_map]
    have tr : ∀ x : Core, trunc (E.hint 54) h0 (.ret (.agg x.cells)) (heapS h0 names fr) = some (.ret (.agg x.cells), h0) := fun x => by
      unfold heapS; exact trunc_app (H := E.hint 54) (by kernel_rfl) (AV.lt.agg (Core.cells_lt _ x))
    have fin := loop (.lit (.int .i64 0)) (.lit (.int .i64 0)) (.lit (.int .i64 0)) (.lit (.bool false)) (.lit (.string ByteArray.empty)) (.lit (.string ByteArray.empty)) (.lit (.int .i64 0)) [] [] [] [] (.lit (.int .i64 c.k)) (.lit (.int .i64 c.n)) (.lit (.int .i64 c.m)) (.lit (.bool c.inn)) (.lit (.string c.name)) (.lit (.string c.df)) (.lit (.int .i64 c.nd)) (.sl 1 (c.labels.map strC)) (.sl 11 ((mapK (fun _ k => k.seal names fr) 0 c.kids).map Core.cells)) (.sl 10 (c.vals.map Val.cells)) (c.types.length + 1) 0 [] (Nat.zero_le _) (by omega) rfl
    have e1 := tr (c.seal names fr)
    have e2 := congrArg (fun z => trunc (E.hint 54) h0 (.ret (.agg z)) (heapS h0 names fr)) (Core.cells_eq (c.seal names fr))
    rw [Core.seal_eq] at e2
    rw [Core.seal_eq] at e1 ⊢
    exact fin.trans (e2.symm.trans e1)
  termination_by c => SizeOf.sizeOf c
  decreasing_by exact Core.size_kid hi

theorem Core.seal_ok (names : List ByteArray) (fr : Int) : ∀ c : Core, c.Ok → (c.seal names fr).Ok
  | c, oc => by
    have rc : ∀ x ∈ c.kids, (x.seal names fr).Ok := fun x hx => Core.seal_ok names fr x (oc.kid hx)
    rw [Core.seal_eq]
    cases oc with
    | mk a1 a2 a3 a4 a5 a6 a7 a8 a9 a10 a11 a12 a13 a14 =>
      refine .mk a1 a2 a3 a4 a5 a6 (by simpa using a7) (fun x hx => ?_) a9 a10 (by rw [mapK_len]; exact a11) (fun x hx => ?_) a13 a14
      · obtain ⟨t, ht, rfl⟩ := List.mem_map.1 hx
        exact sealT_ok names fr t (a8 t ht)
      · obtain ⟨j, k, hk, rfl⟩ := mapK_mem hx
        exact rc k hk
  termination_by c => SizeOf.sizeOf c
  decreasing_by exact Core.kid_lt hx

/- CorePuts -/
theorem corePuts_row (c : Core) (oc : c.Ok) (s : ByteArray) (os : s.size ≤ maxLen) (v : Val) (ov : v.Ok) (names : List ByteArray) (hn : names.length ≤ maxLen) (ons : ∀ s ∈ names, s.size ≤ maxLen) (fr : Int) (of : (Lit.int .i64 fr).wf = true) (hv : c.vol ≤ 1048576) (_ : List Nat) : evw E 9 [.agg c.cells, .lit (.string s), .agg v.cells, .sl 1 (names.map strC), .lit (.int .i64 fr)] [] = some (.ret (.lit (.bool true)), []) := by
  have sl := Core.slim_vol c hv
  refine evw_run primsC 0 rfl rfl rfl ?_
  rw [nf9]
  simp only [aggS, bind_some', Core.cells_len, Val.cells_len, show Nat.beq 11 11 = true from rfl, show Nat.beq 10 10 = true from rfl, condT, Core.re, Val.re, much36 _ _ oc, much48 _ _ ov, onOut_ret, bin_int, gtrI, boolB, awake37, lenA31, put52 s v c _ sl, put53 s v c _ sl, same45 _ _ _ (Core.put_ok s ov c oc), eqd_self, seal54 names hn fr c _ oc hv, seal55 names hn fr c _ oc hv, same45 _ _ _ (Core.seal_ok names fr c oc)]
  cases decide (c.much > 500) <;> cases decide (v.much > 200) <;> cases decide (((names.map strC).length : Int) > 20) <;> rfl

theorem str_of' {vs : List AV} (h : TypedC E 9 vs) : ∃ s, vs = [.lit (.string s)] ∧ s.size ≤ maxLen := str_of h ty9
end Go.Sh.T

/- Core's openings. -/
namespace Go.Sh.T
open Go Go.Sh
theorem slim_of {c : Core} {m : Nat} (h : volC c.cells ≤ m) (hm : m ≤ 1048576) : c.Slim := Core.slim_vol c (Nat.le_trans h hm)
theorem vol_core {c : Core} {m : Nat} (h : volC c.cells ≤ m) (hm : m ≤ 1048576) : c.vol ≤ 1048576 := Nat.le_trans h hm
end Go.Sh.T
