/- ShC: part of the proof: a shadow of the machine that is proved sound, and what the functions of this seat compute. Conditions: none. -/
import Derived.Test.YtgcjkhmeideaoaaShB
import Derived.RangeFuncRecord
import Derived.Lib.OthersKept
import Derived.WalkKit
import Derived.Defers
import Derived.Recover
import Derived.Laws.Pointers
import Derived.IntWalk
set_option linter.unusedSimpArgs false
/- Range over a function: the record of the loop, and the rounds. -/
namespace Go.Sh
open Go
set_option linter.unusedVariables false
set_option linter.unusedSimpArgs false

/-- Rounds, one behind the other; a jump ends them. -/
def foldR (rd : AV → Heap → Option (Option Code × Heap)) : List AV → Heap → Option (Option Code × Heap)
  | [], h => some (none, h)
  | x :: xs, h => (rd x h).bind fun p => match p.1 with
    | none => foldR rd xs p.2
    | some c => some (some c, p.2)

theorem quiet_le {d d1 : Nat} (hd : d ≤ d1) {o : Owner} (h : quiet d o = true) : quiet d1 o = true := by
  induction hd with
  | refl => exact h
  | step _ ih => exact quiet_succ ih

structure Ready (G : Gh) (w : World) (l : Nat) (rc : Loop) : Prop where
  there : w.heap[l]? = some (.loop rc)
  state : rc.state = .ready
  pend : rc.pending = none
  own : G.O l = .none

/-- The record behind the rounds. -/
def endRec (rc : Loop) (j : Option Code) : Loop := { rc with state := if j.isNone then .ready else .done, pending := j }
def endW (w : World) (l : Nat) (rc : Loop) (j : Option Code) : World := w.putObj l (.loop (endRec rc j))

section
variable {G G1 G2 : Gh} {w w1 w2 : World} {l d : Nat} {rc rc' : Loop}

theorem Ready.lt (h : Ready G w l rc) : l < w.heap.size := lt_of_heap h.there
theorem Ready.later (h : Ready G w l rc) (f : Fr d G w G1 w1) : Ready G1 w1 l rc := by
  obtain ⟨a1, a2, a3⟩ := f.same l h.lt (by rw [h.own]; rfl)
  exact ⟨a1.trans h.there, h.state, h.pend, a3.trans h.own⟩

theorem put_other {o : Obj} {b : Nat} (h : b ≠ l) : (w.putObj l o).heap[b]? = w.heap[b]? := World.putObj_heap_other h
theorem put_same {o : Obj} (h : l < w.heap.size) : (w.putObj l o).heap[l]? = some o := World.putObj_heap_same h
theorem row_put {r : Loop} {o : Loop} (h : w.heap[l]? = some (.loop r)) (b s m : Nat) : row? (w.putObj l (.loop o)) b s m = row? w b s m := by
  by_cases e : b = l
  · subst e; unfold row?; rw [put_same (lt_of_heap h), h]
  · exact row_of_same (put_other e) s m

theorem same_put {o : Obj} {b : Nat} (h : b ≠ l) : SameB G w G (w.putObj l o) b := ⟨put_other h, rfl, rfl⟩

theorem Fr.put {r o : Loop} (f : Fr d G w G1 w1) (h : w.heap[l]? = some (.loop r)) (ho : G.O l = .none) : Fr d G (w.putObj l (.loop o)) G1 (w1.putObj l (.loop o)) := by
  obtain ⟨a1, a2, a3⟩ := f.same l (lt_of_heap h) (by rw [ho]; rfl)
  have h1 : w1.heap[l]? = some (.loop r) := a1.trans h
  refine ⟨f.os, f.tape, f.output, by simpa using f.size, ⟨f.ext.le, fun b s m vals hs hr => ?_, f.ext.mu⟩, fun b hb hq => ?_⟩
  · rw [row_put h] at hr; rw [row_put h1]; exact f.ext.row b s m vals hs hr
  · have hb : b < w.heap.size := by simpa using hb
    by_cases e : b = l
    · subst e; exact ⟨(put_same (lt_of_heap h1)).trans (put_same (lt_of_heap h)).symm, a2, a3⟩
    · obtain ⟨b1, b2, b3⟩ := f.same b hb hq
      exact ⟨by rw [put_other e, put_other e]; exact b1, b2, b3⟩

/-- What a round is: its shadow. -/
def RoundC (P : Program) (l : Nat) (d : Nat) (G0 : Gh) (w0 : World) (rc : Loop) (rd : AV → Heap → Option (Option Code × Heap)) : Prop :=
  ∀ (nn d' : Nat) (G1 : Gh) (w1 : World) (x : AV) (xv : Value) (h1 : Heap) (j : Option Code) (h2 : Heap), d ≤ d' → Fr d G0 w0 G1 w1 → RepA G1.S w1 G1.μ x xv → RepHeap G1 w1 h1 → Within G1 w1 → rd x h1 = some (j, h2) →
    ∃ fn tmps assign body, (Instr.yield l #[xv]).run P w1 = .ok (.round l fn tmps assign body) w1 ∧ RoundIn (FF none) nn P l fn tmps assign body w1
      (fun e w2 => e = .returned (.bool j.isNone) ∧ ∃ G2, Fr d' G1 (endW w1 l rc j) G2 w2 ∧ RepHeap G2 w2 h2 ∧ Within G2 w2)

theorem RoundC.later {P : Program} {rd : AV → Heap → Option (Option Code × Heap)} (h : RoundC P l d G w rc rd) {d1 : Nat} (hd : d ≤ d1) (f : Fr d G w G1 w1) : RoundC P l d1 G1 w1 rc rd := fun nn d' G2 w2 x xv h1 j h2 hd' f2 => by
  refine h nn d' G2 w2 x xv h1 j h2 (Nat.le_trans hd hd') (f.trans ?_)
  exact ⟨f2.os, f2.tape, f2.output, f2.size, f2.ext, fun b hb hq => f2.same b hb (quiet_le hd hq)⟩
end

/-- What an iterator's call ends in. -/
def PostY (d : Nat) (G : Gh) (w : World) (l : Nat) (rc : Loop) (j : Option Code) (h' : Heap) (e : Ending) (w' : World) : Prop :=
  e = .returned (.bool j.isNone) ∧ ∃ G', Fr d G (endW w l rc j) G' w' ∧ RepHeap G' w' h' ∧ Within G' w'
end Go.Sh

/- Range over a function: steps by hand, and the statement. -/
namespace Go.Sh
open Go
set_option linter.unusedVariables false
set_option linter.unusedSimpArgs false

/-- These slots are told on, and the heap. -/
def kL (L : List Nat) : Ex → St → Option (List (Nat × Slot) × Heap)
  | .normal, st => some (L.map (fun t => (t, (st.s t).norm)), st.h)
  | _, _ => none
def kLs (L : List Nat) : St → Option (List (Nat × Slot) × Heap) := fun st => some (L.map (fun t => (t, (st.s t).norm)), st.h)
def kN {ρ : Type} : AV → Heap → Option ρ := fun _ _ => none

section
variable {E : Env} {H : FHint} {d : Nat} {G : Gh} {w : World} {st : St} {a : Act} {o : Oper} {ops : Array Oper} {nt nn : Nat} {ro : Option Nat} {D : List Deferred} {call : Nat → List AV → Heap → R}

theorem AtSt.keep {G0 : Gh} {w0 : World} (l : Option (List Nat)) (h : AtSt d nt G0 w0 st a w) : AtSt d nt G0 w0 (st.keep l) a w := by
  obtain ⟨G, r, h1, h2⟩ := h
  exact ⟨G, r.keep l, h1, h2⟩

/-- A piece of code, by its shadow; these slots are told on. -/
theorem seg_keep (ok : E.Ok) (hs : SoundC E.P call) {n bi : Nat} {G0 : Gh} {w0 : World} {c : Code} {Q : Exit → Act → World → Prop} (L : List Nat) {l : List (Nat × Slot)} {h' : Heap} (h : evC E H nt call n c bi st (kL L) kN = some (l, h')) (hat : AtSt d nt G0 w0 st a w) (hd : a.defers = D)
    (hQ : ∀ a' w', AtSt d nt G0 w0 { s := lkS l, h := h' } a' w' → a'.defers = D → Q .normal a' w') : c.wpIn (FF ro) nn E.P Q a w := by
  rw [evC_bind] at h
  cases hc : evC E H nt call n c bi st kE kP with
  | none => rw [hc] at h; cases h
  | some r =>
    rw [hc] at h
    cases r with
    | inr p => cases h
    | inl p =>
      obtain ⟨e, st'⟩ := p
      cases e with
      | exit i => cases h
      | ret => cases h
      | normal =>
        have h := Option.some.inj h
        have e1 := (Prod.mk.inj h).1; have e2 := (Prod.mk.inj h).2
        subst e1; subst e2
        refine Code.wpIn_mono (fun e a' w' hq => ?_) (evC_ok (ro := ro) (nn := nn) ok hs c bi st kE a w hc hat hd)
        obtain ⟨hd', hq⟩ := hq
        cases e with
        | normal =>
          obtain ⟨st1, G1, h1, h2, h3, h4⟩ := hq
          have e := (Prod.mk.inj (Sum.inl.inj (Option.some.inj h1))).2
          subst e
          exact hQ a' w' (AtSt.keep (some L) ⟨G1, h2, h3, h4⟩) hd'
        | exit i => obtain ⟨st1, G1, h1, _⟩ := hq; exact absurd (Prod.mk.inj (Sum.inl.inj (Option.some.inj h1))).1 (by intro h; cases h)
        | ret => obtain ⟨st1, G1, h1, _⟩ := hq; exact absurd (Prod.mk.inj (Sum.inl.inj (Option.some.inj h1))).1 (by intro h; cases h)
        | panic ch => obtain ⟨x, v, G1, h', _, h1, _⟩ := hq; cases (Option.some.inj h1)
        | goto l => exact hq.elim
        | outgrown => exact hq.elim

theorem step_keep (ok : E.Ok) (hs : SoundC E.P call) {G0 : Gh} {w0 : World} {i : Nat} (hi : ops[i]? = some o) (L : List Nat) {l : List (Nat × Slot)} {h' : Heap} (h : stepK E H nt call ops i o st (kLs L) kN = some (l, h')) (hat : AtSt d nt G0 w0 st a w) (hd : a.defers = D)
    {K : Act → World → Prop} {Q : Exit → Act → World → Prop} (hK : ∀ a' w', AtSt d nt G0 w0 { s := lkS l, h := h' } a' w' → a'.defers = D → K a' w') : wpOpIn (FF ro) nn E.P ops Q i K a w := by
  rw [step_bind] at h
  cases hc : stepD E H nt call ops i o st with
  | none => rw [hc] at h; cases h
  | some r =>
    rw [hc] at h
    cases r with
    | inr p => cases h
    | inl st' =>
      have h := Option.some.inj h
      have e1 := (Prod.mk.inj h).1; have e2 := (Prod.mk.inj h).2
      subst e1; subst e2
      obtain ⟨G1, r, hnt, hf⟩ := hat
      refine (step_ok (ro := ro) (nn := nn) ok hs hi hnt r hc).1 st' rfl K Q fun a' G' w' r' hnt' hd' hf' => ?_
      exact hK a' w' (AtSt.keep (some L) ⟨G', r', hnt', hf.trans hf'⟩) (hd'.trans hd)

/-- One round's shadow: the assignments, the body. -/
noncomputable def roundE (E : Env) (H : FHint) (nt : Nat) (call : Nat → List AV → Heap → R) (n : Nat) (s0 : Nat → Slot) (p : Nat) (assign body : Code) (x : AV) (h : Heap) : Option (Option Code × Heap) :=
  evC E H nt call n assign 0 { s := upd s0 p (.c (.v x)), h := h } (fun e st' => match e with
    | .normal => evC E H nt call n body 0 st' (fun e st'' => match e with
      | .normal => some (none, st''.h)
      | .ret => some (some .ret, st''.h)
      | .exit i => some (some (.exit i), st''.h)) (fun _ _ => none)
    | _ => none) (fun _ _ => none)

def freeS : Slot → Bool
  | .c (.v _) => true
  | _ => false

theorem RepSlot.free {i d' : Nat} {s : Slot} {v : Value} (hf : freeS s = true) (h : RepSlot G w d i s v) : RepSlot G w d' i s v := by
  cases s with
  | c x => cases x with
    | v a => exact h
    | nil n => cases hf
    | own n es => cases hf
  | _ => cases hf

/-- What an iterator promises: it goes through these. -/
def IterC (P : Program) (g : Nat) (caps : List AV) (xs : List AV) (h : Heap) : Prop :=
  Callable P g ∧ ∀ (d : Nat) (G : Gh) (w : World) (l : Nat) (rc : Loop) (rd : AV → Heap → Option (Option Code × Heap)) (cv : Array Value) (j : Option Code) (h' : Heap), Ready G w l rc → RoundC P l d G w rc rd → RepL G.S w G.μ caps cv.toList → RepHeap G w h → Within G w → foldR rd xs h = some (j, h') →
    Calls P g (#[.func (.yield l) #[] #[]] ++ cv) w fun e w' => (∃ v, e = .returned v) ∧ ∃ G', Fr d G (endW w l rc j) G' w' ∧ RepHeap G' w' h' ∧ Within G' w'

end
end Go.Sh

/- Range over a function: a function that holds one; an iterator's walk. -/
namespace Go.Sh
open Go
set_option linter.unusedVariables false
set_option linter.unusedSimpArgs false

section
variable {E : Env} {H : FHint} {d : Nat} {G : Gh} {w : World} {st : St} {a : Act} {o : Oper} {ops : Array Oper} {nt nn : Nat} {ro : Option Nat} {call : Nat → List AV → Heap → R}

/-- What follows the rounds. -/
noncomputable def afterR (E : Env) (H : FHint) (fn : Func) (call : Nat → List AV → Heap → R) (n : Nat) (h : Heap) (rest : Code) (bi : Nat) (l : List (Nat × Slot)) : Option Code × Heap → R
  | (none, h1) => evC E H fn.ntmps call n rest 0 { s := lkS l, h := h1 } (fun e st' => match e with | .exit _ => none | _ => finish E H fn h st') (fun _ _ => none)
  | (some .ret, h1) => finish E H fn h { s := lkS l, h := h1 }
  | (some (.exit i), h1) => bif Nat.beq i bi then evC E H fn.ntmps call n rest 0 { s := lkS l, h := h1 } (fun e st' => match e with | .exit _ => none | _ => finish E H fn h st') (fun _ _ => none) else none
  | _ => none

end
end Go.Sh
namespace Go.Sh
open Go
end Go.Sh

/- A range over a string: steps by hand. -/
namespace Go.Sh
set_option linter.unusedVariables false
set_option linter.unusedSimpArgs false
open Go

section
variable {d : Nat} {G : Gh} {w : World} {st : St} {a : Act} {o : Oper} {ops : Array Oper} {nt nn : Nat} {P : Program}

theorem row_putN {x y : Obj} {l : Nat} (h : w.heap[l]? = some x) (hx : ∀ arr T fz, x ≠ .cells arr T fz) (hy : ∀ arr T fz, y ≠ .cells arr T fz) (b s m : Nat) : row? (w.putObj l y) b s m = row? w b s m := by
  by_cases e : b = l
  · subst e; unfold row?; rw [put_same (lt_of_heap h), h]
    split
    · rename_i h1; exact absurd (Option.some.inj h1) (hy _ _ _)
    · split
      · rename_i h1; exact absurd (Option.some.inj h1) (hx _ _ _)
      · rfl
  · exact row_of_same (put_other e) s m
theorem ext_putN {x y : Obj} {l : Nat} {S : Nat → Nat} {μ : List Nat} (h : w.heap[l]? = some x) (hx : ∀ arr T fz, x ≠ .cells arr T fz) (hy : ∀ arr T fz, y ≠ .cells arr T fz) : Ext S w μ S (w.putObj l y) μ :=
  ⟨fun _ => Nat.le_refl _, fun b s m vals _ hr => by rw [row_putN h hx hy]; exact hr, fun _ _ h => h⟩
theorem st_putN {x y : Obj} {l : Nat} (h : w.heap[l]? = some x) (hx : ∀ arr T fz, x ≠ .cells arr T fz) (hy : ∀ arr T fz, y ≠ .cells arr T fz) (ho : G.O l = .none) {tmps : Array Value} (r : RepSt d G w st tmps) : RepSt d G (w.putObj l y) st tmps :=
  ⟨fun i => (r.slot i).mono' (ext_putN h hx hy) (fun b _ hb => same_put (fun e => by rw [e, ho] at hb; cases hb)) (fun c b _ hb => same_put (fun e => by rw [e, ho] at hb; cases hb)), r.path,
   r.heap.mono' (ext_putN h hx hy) rfl (fun i b _ hb => same_put (fun e => by rw [e, ho] at hb; cases hb)) (fun i c b _ hb => same_put (fun e => by rw [e, ho] at hb; cases hb)), fun b hb => by
    obtain ⟨arr, T, fz, h1, h2⟩ := r.within b hb
    have : b ≠ l := fun e => by rw [e, h] at h1; exact absurd (Option.some.inj h1) (hx _ _ _)
    exact ⟨arr, T, fz, (put_other this).trans h1, h2⟩⟩
theorem Fr.putN {G0 : Gh} {w0 : World} {x y : Obj} {l : Nat} (f : Fr d G0 w0 G w) (hl : w0.heap.size ≤ l) (h : w.heap[l]? = some x) (hx : ∀ arr T fz, x ≠ .cells arr T fz) (hy : ∀ arr T fz, y ≠ .cells arr T fz) : Fr d G0 w0 G (w.putObj l y) := by
  refine ⟨f.os, f.tape, f.output, by simpa using f.size, ⟨f.ext.le, fun c s m vals hs hr => ?_, f.ext.mu⟩, fun c hb hq => ?_⟩
  · rw [row_putN h hx hy]; exact f.ext.row c s m vals hs hr
  · obtain ⟨b1, b2, b3⟩ := f.same c hb hq
    exact ⟨by rw [put_other (by omega)]; exact b1, b2, b3⟩

/-- A step that yields a value, in a world that has turned where nothing is told of. -/
theorem step_value {i t : Nat} {G' : Gh} {w' : World} {x : AV} {v : Value} (hi : ops[i]? = some o) (hg : o.guard = none) (hdt : o.dst = some t) (hnd : ∀ c, o.op ≠ .defer c) (ht : t < nt) (hpb : st.pb t = false) (hnt : a.tmps.size = nt)
    (hrun : (execOp a.eval o).run P w = .ok (.value v) w') (r : RepSt d G' w' st a.tmps) (hv : RepA G'.S w' G'.μ x v) {K : Act → World → Prop} {Q : Exit → Act → World → Prop}
    (hK : ∀ a', RepSt d G' w' { s := upd st.s t (.c (.v x)), h := st.h, pb := st.pb } a'.tmps → a'.tmps.size = nt → a'.defers = a.defers → K a' w') : wpOpIn (FF none) nn P ops Q i K a w := by
  unfold wpOpIn
  rw [hi]
  simp only [Region.wanted, hg, if_true]
  refine wp_in none hnd ?_
  unfold Oper.wp
  rw [hrun, Oper.upon_value]
  refine hK _ ?_ (by rw [put_tmps, putT_size, hnt]) (put_defers _ _ _)
  rw [put_tmps, hdt]
  exact r.next (Ext.refl _ _ _) (some t) v (fun _ e => by cases e; rw [hnt]; exact ht) (by simp [freeDst, hpb]) [(t, .c (.v x))] st.h (fun _ e => by cases e; simp) (fun t' s hm => by
    simp only [List.mem_cons, Prod.mk.injEq, List.not_mem_nil, or_false] at hm
    obtain ⟨rfl, rfl⟩ := hm
    show RepA _ _ _ _ ((a.tmps.setIfInBounds t' v).getD t' undef)
    rw [getD_put _ _ _ _ (by rw [hnt]; exact ht), if_pos rfl]; exact hv) (fun _ _ _ hm => by simp at hm) (fun _ _ _ _ _ => ⟨rfl, rfl, rfl⟩) r.heap r.within

/-- A new block that is no cells. -/
theorem st_alloc (x : Obj) {tmps : Array Value} (r : RepSt d G w st tmps) : RepSt d (setO G w.heap.size .none) (w.alloc x) st tmps ∧ Fr d G w (setO G w.heap.size .none) (w.alloc x) := by
  obtain ⟨fa, wa, sa⟩ := frame_alloc (d := d) r.within x .none
  exact ⟨⟨fun i => (r.slot i).mono' fa.ext (fun b hb _ => sa b hb) (fun c b hb _ => sa b hb), r.path, r.heap.mono' fa.ext rfl (fun i b hb _ => sa b hb) (fun i c b hb _ => sa b hb), wa⟩, fa⟩
end
end Go.Sh

/- A region's piece, by its shadow; a deferred function that recovers. -/
namespace Go.Sh
open Go
set_option linter.unusedVariables false
set_option linter.unusedSimpArgs false

section
variable {E : Env} {H : FHint} {call : Nat → List AV → Heap → R} {d : Nat} {nt nn : Nat} {ops : Array Oper} {D : List Deferred} {ro : Option Nat}

/-- Operations of a region, by their shadow; then the rest. -/
theorem ops_pre (ok : E.Ok) (hs : SoundC E.P call) {G0 : Gh} {w0 : World} {Q : Exit → Act → World → Prop} {rest : List Nat} {st1 : St} (hQ : ∀ a' G' w', RepSt d G' w' st1 a'.tmps → a'.tmps.size = nt → a'.defers = D → Fr d G0 w0 G' w' → wpOpsIn (FF ro) nn E.P ops Q rest a' w') :
    ∀ (l : List (Nat × Oper)) (st : St) (a : Act) (G : Gh) (w : World), (∀ p ∈ l, ops[p.1]? = some p.2) → opsK E H nt call ops l st kS kP = some (.inl st1) → RepSt d G w st a.tmps → a.tmps.size = nt → a.defers = D → Fr d G0 w0 G w →
      wpOpsIn (FF ro) nn E.P ops Q (l.map Prod.fst ++ rest) a w
  | [], st, a, G, w, _, h, r, hnt, hd, hf => by
    have h := Sum.inl.inj (Option.some.inj h); subst h
    exact hQ a G w r hnt hd hf
  | (i, o) :: l, st, a, G, w, hl, h, r, hnt, hd, hf => by
    rw [List.map_cons, List.cons_append, wpOpsIn_cons]
    unfold opsK at h
    rw [step_bind, Option.bind_eq_some_iff] at h
    obtain ⟨sr, hsr, h⟩ := h
    have hstep := step_ok (ro := ro) (nn := nn) ok hs (hl _ List.mem_cons_self) hnt r hsr
    cases sr with
    | inl st' =>
      refine hstep.1 st' rfl _ _ fun a' G' w' r' hnt' hd' hf' => ?_
      exact ops_pre ok hs hQ l st' a' G' w' (fun p hp => hl p (List.mem_cons_of_mem _ hp)) h r' hnt' (hd'.trans hd) (hf.trans hf')
    | inr p => cases h
end

def hpOf : Slot → Option Nat
  | .c (.v (.hp i 0)) => some i
  | _ => none
theorem hpOf_eq {s : Slot} {i : Nat} (h : hpOf s = some i) : s = .c (.v (.hp i 0)) := by
  unfold hpOf at h
  split at h
  · have h := Option.some.inj h; subst h; rfl
  · cases h
end Go.Sh

/- An element that is laid behind an append of its placeholder: worlds alike. -/
namespace Go.Sh
open Go
set_option linter.unusedVariables false

theorem setCells_shape (b : Nat) : ∀ (vs : List Value) (o : Nat) (w : World), w.setCells b o vs = { w with heap := (w.setCells b o vs).heap }
  | [], _, _ => rfl
  | v :: r, o, w => by rw [World.setCells, setCells_shape b r (o + 1) _]; rfl

/-- A block that is written twice at one place. -/
theorem over_room {b o : Nat} {news news' : List Value} {w : World} {arr : Array Value} {T : TypeId} {fz : Nat × Nat} (hb : w.heap[b]? = some (.cells arr T fz)) (hl : news'.length = news.length) (hle : o + news.length ≤ arr.size) :
    (w.setCells b o news).setCells b o news' = w.setCells b o news' := by
  rw [setCells_shape b news', setCells_shape b news' o w]
  obtain ⟨a1, h1, l1, s1⟩ := heap_setCells b news o w arr hb hle
  obtain ⟨a2, h2, l2, s2⟩ := heap_setCells b news' o _ a1 h1 (by omega)
  obtain ⟨a3, h3, l3, s3⟩ := heap_setCells b news' o w arr hb (by omega)
  have : ((w.setCells b o news).setCells b o news').heap = (w.setCells b o news').heap := by
    refine Array.ext_getElem? fun c => ?_
    by_cases e : c = b
    · subst e
      rw [h2, h3]
      have : a2 = a3 := Array.ext' (by
        rw [l2, l3, l1]
        refine List.ext_getElem? fun j => ?_
        have hs : arr.toList.length = arr.size := by simp
        rw [spliceV_get (by rw [spliceV_length (by omega)]; omega), spliceV_get (by omega), spliceV_get (by omega)]
        by_cases k1 : j < o
        · simp [k1]
        · simp only [k1, if_false]
          by_cases k2 : j < o + news'.length
          · simp [k2]
          · simp only [k2, if_false]
            rw [if_neg (by omega)])
      rw [this]
    · rw [heap_setCells_other b news' o _ e, heap_setCells_other b news o _ e, heap_setCells_other b news' o _ e]
  rw [this, setCells_shape b news o w]

theorem over_new {o : Nat} {news : List Value} {w : World} {A A' : Array Value} {T : TypeId} (hA : A'.toList = spliceV A.toList o news) (hle : o + news.length ≤ A.size) :
    (w.alloc (.cells A T)).setCells w.heap.size o news = w.alloc (.cells A' T) := by
  rw [setCells_shape]
  obtain ⟨a1, h1, l1, s1⟩ := heap_setCells w.heap.size news o (w.alloc (.cells A T)) A (heap_alloc_new w _) hle
  have : ((w.alloc (.cells A T)).setCells w.heap.size o news).heap = (w.alloc (.cells A' T)).heap := by
    refine Array.ext_getElem? fun c => ?_
    by_cases e : c = w.heap.size
    · subst e
      rw [h1, heap_alloc_new, show a1 = A' from Array.ext' (by rw [l1, hA])]
    · rw [heap_setCells_other _ _ _ _ e]
      show (w.heap.push _)[c]? = (w.heap.push _)[c]?
      rw [Array.getElem?_push, Array.getElem?_push, if_neg e, if_neg e]
  rw [this]; rfl

theorem setCells_get {b : Nat} : ∀ (vs : List Value) (o : Nat) (w w' : World), w.heap[b]? = w'.heap[b]? → (w.setCells b o vs).heap[b]? = (w'.setCells b o vs).heap[b]?
  | [], _, _, _, h => h
  | v :: r, o, w, w', h => by
    rw [World.setCells, World.setCells]
    refine setCells_get r (o + 1) _ _ ?_
    simp only [World.setCell, Array.getElem?_modify, h]

theorem cells_comm {b c o p : Nat} (hne : b ≠ c) (vs us : List Value) (w : World) : (w.setCells b o vs).setCells c p us = (w.setCells c p us).setCells b o vs := by
  rw [setCells_shape c us, setCells_shape b vs o (w.setCells c p us)]
  have : ((w.setCells b o vs).setCells c p us).heap = ((w.setCells c p us).setCells b o vs).heap := by
    refine Array.ext_getElem? fun k => ?_
    by_cases e : k = c
    · subst e
      rw [heap_setCells_other b vs o _ (fun h => hne h.symm)]
      exact setCells_get us p _ _ (heap_setCells_other b vs o _ (fun h => hne h.symm))
    · rw [heap_setCells_other c us p _ e]
      by_cases e2 : k = b
      · subst e2
        exact setCells_get vs o _ _ (heap_setCells_other c us p _ e).symm
      · rw [heap_setCells_other b vs o _ e2, heap_setCells_other b vs o _ e2, heap_setCells_other c us p _ e]
  rw [this, setCells_shape b vs o w, setCells_shape c us p w]

section
variable {E : Env} {H : FHint} {d : Nat} {G : Gh} {w : World} {st : St}

theorem grow_st {tmps : Array Value} (r : RepSt d G w st tmps) {t : Nat} (ht : t < tmps.size) (hpb : st.pb t = false) {P : Program} {T T' ty e : TypeId} {i : TypeInfo} {z : Value} (hu : P.underlying T = some (.slice e)) (hi : P.info? e = some i) (hz : i.zero = some z)
    (hzs : z.cells.size = i.size) (hby : i.bytes ≤ 16384) {base : Option Addr} {n cap : Nat} {es ys : List (List AV)} {olds : List Value} (hn : i.size = n)
    (hold : (Builtin.firstCells n es.length (.slice base es.length cap)).run P w.drew = .ok olds.toArray w.drew) (ho : RepC G.S w G.μ es.flatten olds) (hen : ∀ x ∈ es, x.length = n) (hyn : ∀ x ∈ ys, x.length = n)
    {news : List Value} (hy : RepC G.S w G.μ ys.flatten news) (hg : cap < es.length + ys.length) (hm : es.length + ys.length ≤ maxApp) :
    ∃ G2, RepSt d G2 (w.drew.alloc (.cells ((olds ++ news).toArray ++ Builtin.zeroCells z.cells (grownCap w (es.length + ys.length) cap e - (es.length + ys.length))) e)) { s := ups st.s [(t, .c (.own n (es ++ ys)))], h := st.h, pb := addPb st.pb [(t, .c (.own n (es ++ ys)))] } (putT tmps (some t) (.slice (some ⟨w.heap.size, 0, none⟩) (es.length + ys.length) (grownCap w (es.length + ys.length) cap e))) ∧
      Fr d G w G2 (w.drew.alloc (.cells ((olds ++ news).toArray ++ Builtin.zeroCells z.cells (grownCap w (es.length + ys.length) cap e - (es.length + ys.length))) e)) := by
  subst hn
  have hge := grownCap_ge w (es.length + ys.length) cap e
  have hlen : (es ++ ys).length = es.length + ys.length := List.length_append
  have hol : olds.length = es.length * i.size := by rw [← ho.length, flatten_len hen]
  have hnl : news.length = ys.length * i.size := by rw [← hy.length, flatten_len hyn]
  have hfl : (es ++ ys).flatten.length = olds.length + news.length := by rw [List.flatten_append, List.length_append, ho.length, hy.length]
  have rd : RepSt d G w.drew st tmps := r.next (w' := w.drew) ext_drew none undef (fun _ e => by cases e) rfl [] _ (fun _ e => by cases e) (fun _ _ hm => by cases hm) (fun _ _ _ hm => by cases hm) (fun _ _ _ _ _ => ⟨rfl, rfl, rfl⟩) (r.heap.mono' ext_drew rfl (fun _ _ _ _ => ⟨rfl, rfl, rfl⟩) (fun _ _ _ _ _ => ⟨rfl, rfl, rfl⟩)) r.within
  have hrep : RepC G.S w.drew G.μ (es ++ ys).flatten (olds ++ news) := by
    rw [List.flatten_append]
    exact (ho.append hy).mono ext_drew
  obtain ⟨hr, hf⟩ := new_own rd ht hpb (n := i.size) (cap := grownCap w (es.length + ys.length) cap e) (es := es ++ ys)
    (arr := (olds ++ news).toArray ++ Builtin.zeroCells z.cells (grownCap w (es.length + ys.length) cap e - (es.length + ys.length))) e
    (by
      rw [Array.size_append, size_zeroCells, hzs]
      simp only [List.size_toArray, List.length_append, hol, hnl]
      rw [← Nat.add_mul, ← Nat.add_mul]
      congr 1; omega) (by rw [hlen]; exact hge) (by
      rw [hfl]
      rw [Array.toList_append, List.take_append_of_le_length (by simp), List.take_of_length_le (by simp)]
      exact hrep) (fun x hx => by
      rcases List.mem_append.1 hx with h | h
      · exact hen x h
      · exact hyn x h)
  rw [hlen] at hr
  exact ⟨_, hr, fr_drew.trans hf⟩


theorem room_st {tmps : Array Value} (r : RepSt d G w st tmps) {t : Nat} (ht : t < tmps.size) (hpb : st.pb t = false) {P : Program} {T T' ty e : TypeId} {i : TypeInfo} (hu : P.underlying T = some (.slice e)) (hi : P.info? e = some i)
    {n b cap : Nat} {es ys : List (List AV)} {arr : Array Value} {Tb : TypeId} (hn : i.size = n) (hO : G.O b = .sl d t) (hb : w.heap[b]? = some (.cells arr Tb (0, 0))) (hsz : arr.size = cap * n) (hS : G.S b = es.flatten.length)
    (ho : RepC G.S w G.μ es.flatten (arr.toList.take es.flatten.length)) (hen : ∀ x ∈ es, x.length = n) (hyn : ∀ x ∈ ys, x.length = n)
    {news : List Value} (hy : RepC G.S w G.μ ys.flatten news) (hg : es.length + ys.length ≤ cap) :
    ∃ G2, RepSt d G2 (w.setCells b (es.length * n) news) { s := ups st.s [(t, .c (.own n (es ++ ys)))], h := st.h, pb := addPb st.pb [(t, .c (.own n (es ++ ys)))] } (putT tmps (some t) (.slice (some ⟨b, 0, none⟩) (es.length + ys.length) cap)) ∧ Fr d G w G2 (w.setCells b (es.length * n) news) := by
  subst hn
  have hlen : (es ++ ys).length = es.length + ys.length := List.length_append
  have hel : es.flatten.length = es.length * i.size := flatten_len hen
  have hnl : news.length = ys.length * i.size := by rw [← hy.length, flatten_len hyn]
  have hfl : (es ++ ys).flatten.length = es.length * i.size + news.length := by rw [List.flatten_append, List.length_append, hel, hy.length]
  have hle : es.length * i.size + news.length ≤ arr.size := by
    rw [hnl, ← Nat.add_mul, hsz]; exact Nat.mul_le_mul_right _ hg
  obtain ⟨arr', a1, a2, a3⟩ := heap_setCells b news (es.length * i.size) w arr hb hle
  obtain ⟨s1, s2, s3⟩ := same_setCells b news (es.length * i.size) w
  have hext0 : Ext G.S w G.μ G.S (w.setCells b (es.length * i.size) news) G.μ := ext_setCells hb hle (by omega)
  let G2 : Gh := { S := fun c => if c = b then (es ++ ys).flatten.length else G.S c, O := G.O, μ := G.μ }
  have hext : Ext G.S w G.μ G2.S (w.setCells b (es.length * i.size) news) G2.μ := by
    refine ⟨fun c => ?_, hext0.row, fun _ _ h => h⟩
    show G.S c ≤ if c = b then _ else _
    by_cases e : c = b
    · subst e; rw [if_pos rfl, hS, List.flatten_append, List.length_append]; exact Nat.le_add_right _ _
    · rw [if_neg e]; exact Nat.le_refl _
  have hsame : ∀ c, c ≠ b → SameB G w G2 (w.setCells b (es.length * i.size) news) c := fun c hc => ⟨heap_setCells_other b news _ w hc, by show (if c = b then _ else _) = _; rw [if_neg hc], rfl⟩
  have hne : ∀ (c : Nat) (p : Owner), G.O c = p → p ≠ .sl d t → c ≠ b := fun c p hc hp e => hp (by rw [← hc, e, hO])
  refine ⟨G2, ?_, ⟨s1, s2, s3, by rw [size_setCells]; exact Nat.le_refl _, hext, fun c hc hq => hsame c (fun e => by subst e; rw [hO, quiet_sl] at hq; cases hq)⟩⟩
  refine r.next hext (some t) _ (fun _ e => by cases e; exact ht) (by simp [freeDst, hpb]) _ _ (fun _ e => by cases e; simp) (fun t' s hm => ?_) (fun _ _ _ hm => by simp at hm) (fun k hk c _ hown => hsame c ?_)
    (r.heap.mono' hext rfl (fun i c _ hc => hsame c (hne c _ hc (by simp))) (fun i k c _ hc => hsame c (hne c _ hc (by simp)))) (fun c hc => ?_)
  · simp only [List.mem_cons, Prod.mk.injEq, List.not_mem_nil, or_false] at hm
    obtain ⟨rfl, rfl⟩ := hm
    rw [show (putT tmps (some t') (Value.slice (some ⟨b, 0, none⟩) (es.length + ys.length) cap)).getD t' undef = .slice (some ⟨b, 0, none⟩) (es.length + ys.length) cap from by
      show (tmps.setIfInBounds t' _).getD t' undef = _
      rw [getD_put _ _ _ _ ht, if_pos rfl]]
    refine .inr ⟨b, cap, arr', Tb, by rw [hlen], hO, a1, by rw [a3, hsz], by rw [hlen]; exact hg, by show (if b = b then _ else _) = _; rw [if_pos rfl], ?_, fun x hx => ?_⟩
    · have htk : arr'.toList.take (es ++ ys).flatten.length = arr.toList.take es.flatten.length ++ news := by
        rw [hfl, a2, spliceV, hel, List.take_append_of_le_length (by simp; omega), List.take_of_length_le (by simp; omega)]
      rw [htk, List.flatten_append]
      exact (ho.append hy).mono hext
    · rcases List.mem_append.1 hx with h | h
      · exact hen x h
      · exact hyn x h
  · have hk : k ≠ t := by simpa using hk
    rcases hown with h | ⟨j, h⟩
    · exact hne c _ h (by simpa using hk)
    · exact hne c _ h (by simp)
  · by_cases e : c = b
    · subst e
      refine ⟨arr', Tb, (0, 0), a1, ?_⟩
      show (if c = c then _ else _) ≤ _
      rw [if_pos rfl, hfl, a3]; exact hle
    · have hc' : G.S c ≠ 0 := by have : G2.S c = G.S c := (hsame c e).2.1; rwa [this] at hc
      obtain ⟨ar, T', fz, h1, h2⟩ := r.within c hc'
      exact ⟨ar, T', fz, by rw [heap_setCells_other b news _ w e]; exact h1, by rw [(hsame c e).2.1]; exact h2⟩


/-- One element appended, or another in its place and it laid there behind: the world is the same. -/
theorem app_twin {tmps : Array Value} (r : RepSt d G w st tmps) {t : Nat} (ht : t < tmps.size) (hpb : st.pb t = false) {P : Program} {T T' ty e : TypeId} {i : TypeInfo} {z : Value} (hu : P.underlying T = some (.slice e)) (hi : P.info? e = some i) (hz : i.zero = some z)
    (hzs : z.cells.size = i.size) (hby : i.bytes ≤ 16384) {n : Nat} {es : List (List AV)} {s : List AV} (hn : i.size = n) {V Y : Value} {news news' : List Value} (hV : RepCell G w (.sl d t) (.own n es) V)
    (hs : Src P n T' Y 1 news w) (hl : news.length = n) (hy : RepC G.S w G.μ s news') (hsn : s.length = n) (hm : es.length + 1 ≤ maxApp) :
    ∃ w1 w1' G2 b cap arr Tb, (Builtin.append_ #[T, T'] ty #[V, Y]).run P w = .ok (.slice (some ⟨b, 0, none⟩) (es.length + 1) cap) w1 ∧ es.length + 1 ≤ cap ∧ w1.heap[b]? = some (.cells arr Tb (0, 0)) ∧ (es.length + 1) * n ≤ arr.size ∧ (∀ c, c ≠ b → c < w.heap.size → w1.heap[c]? = w.heap[c]?) ∧ w1' = w1.setCells b (es.length * n) news' ∧
      RepSt d G2 w1' { s := ups st.s [(t, .c (.own n (es ++ [s])))], h := st.h, pb := addPb st.pb [(t, .c (.own n (es ++ [s])))] } (putT tmps (some t) (.slice (some ⟨b, 0, none⟩) (es.length + 1) cap)) ∧ Fr d G w G2 w1' ∧ w.heap.size ≤ w1.heap.size ∧ (b < w.heap.size → G.O b = .sl d t) := by
  subst hn
  have hl' : news'.length = i.size := by rw [← hy.length, hsn]
  have hy1 : RepC G.S w G.μ ([s] : List (List AV)).flatten news' := by simpa using hy
  have hyn : ∀ x ∈ ([s] : List (List AV)), x.length = i.size := fun x hx => by rw [List.mem_singleton.1 hx]; exact hsn
  have grow : ∀ (base : Option Addr) (cap : Nat) (olds : List Value), V = .slice base es.length cap → (Builtin.firstCells i.size es.length (.slice base es.length cap)).run P w.drew = .ok olds.toArray w.drew → RepC G.S w G.μ es.flatten olds → (∀ x ∈ es, x.length = i.size) → cap < es.length + 1 →
    ∃ w1 w1' G2 b cap arr Tb, (Builtin.append_ #[T, T'] ty #[V, Y]).run P w = .ok (.slice (some ⟨b, 0, none⟩) (es.length + 1) cap) w1 ∧ es.length + 1 ≤ cap ∧ w1.heap[b]? = some (.cells arr Tb (0, 0)) ∧ (es.length + 1) * i.size ≤ arr.size ∧ (∀ c, c ≠ b → c < w.heap.size → w1.heap[c]? = w.heap[c]?) ∧ w1' = w1.setCells b (es.length * i.size) news' ∧
      RepSt d G2 w1' { s := ups st.s [(t, .c (.own i.size (es ++ [s])))], h := st.h, pb := addPb st.pb [(t, .c (.own i.size (es ++ [s])))] } (putT tmps (some t) (.slice (some ⟨b, 0, none⟩) (es.length + 1) cap)) ∧ Fr d G w G2 w1' ∧ w.heap.size ≤ w1.heap.size ∧ (b < w.heap.size → G.O b = .sl d t) := by
    intro base cap olds hVe hold ho hen hg
    obtain ⟨G2, q2, q3⟩ := grow_st (P := P) (T := T) (T' := T') (ty := ty) (ys := [s]) r ht hpb hu hi hz hzs hby rfl hold ho hen hyn hy1 hg hm
    have hm' : es.length + 1 ≤ 2147483648 := hm
    have hfit : Builtin.nextslicecap (es.length + 1) cap * i.bytes ≤ 281474976710656 := by
      refine growslice_fits_wide hg (Nat.le_trans (Nat.mul_le_mul (show _ ≤ 2684354752 by omega) hby) (by decide))
    have hrun := run_append_grow_src (P := P) w T T' ty e i z hu hi hz base es.length cap olds hold Y 1 news hs hg (by omega) hfit
    have hge := grownCap_ge w (es.length + 1) cap e
    have hol : olds.length = es.length * i.size := by rw [← ho.length, flatten_len hen]
    have hsz : (es.length + 1) * i.size ≤ ((olds ++ news).toArray ++ Builtin.zeroCells z.cells (grownCap w (es.length + 1) cap e - (es.length + 1))).size := by
      rw [Array.size_append]
      simp only [List.size_toArray, List.length_append, hol, hl]
      rw [Nat.add_mul, Nat.one_mul]; exact Nat.le_add_right _ _
    refine ⟨_, _, G2, w.heap.size, _, _, _, by rw [hVe]; exact hrun, hge, heap_alloc_new w.drew _, hsz, fun c hc hlt => heap_alloc_lt w.drew _ hlt, ?_, q2, q3, by rw [size_alloc]; exact Nat.le_succ _, fun h => absurd h (Nat.lt_irrefl _)⟩
    refine (over_new (w := w.drew) ?_ ?_).symm
    · rw [Array.toList_append, Array.toList_append]
      simp only [spliceV]
      rw [← hol, List.take_append_of_le_length (by simp), List.drop_append_of_le_length (by simp; omega)]
      simp [hl, hl']
    · rw [hl']; rw [Nat.add_mul, Nat.one_mul] at hsz; exact hsz
  rcases hV with ⟨rfl, rfl⟩ | ⟨b, cap, arr, Tb, rfl, hO, hb, hsz, hc, hS, hr, hen⟩
  · exact grow none 0 [] rfl (run_firstCells_none _ _ _ _ _) .nil (fun x hx => by cases hx) (by simp)
  · have hel := flatten_len hen
    by_cases hroom : es.length + 1 ≤ cap
    · obtain ⟨G2, q2, q3⟩ := room_st (P := P) (T := T) (T' := T') (ty := ty) (ys := [s]) r ht hpb hu hi rfl hO hb hsz hS hr hen hyn hy1 hroom
      have hle : es.length * i.size + i.size ≤ arr.size := by
        rw [hsz, ← Nat.succ_mul]; exact Nat.mul_le_mul_right _ hroom
      have hth := there_block hb (es.length * i.size) i.size hle
      have hrun := run_append_room_src (P := P) w T T' ty e i hu hi b 0 es.length cap Y 1 news hs hroom (fun j hj => by simpa using (hth j (by omega)).1) (fun j hj => by simpa using (hth j (by omega)).2)
      rw [Nat.zero_add] at hrun
      obtain ⟨a1, h1, l1, s1⟩ := heap_setCells b news (es.length * i.size) w arr hb (by omega)
      refine ⟨_, _, G2, b, cap, a1, Tb, hrun, hroom, h1, by rw [s1, Nat.add_mul, Nat.one_mul]; exact hle, fun c hc _ => heap_setCells_other b news _ w hc, ?_, q2, q3, by rw [size_setCells]; exact Nat.le_refl _, fun _ => hO⟩
      exact (over_room hb (by omega) (by omega)).symm
    · have hle : es.flatten.length ≤ arr.size := by rw [hel, hsz]; exact Nat.mul_le_mul_right _ hc
      have hrow : row? w b 0 es.flatten.length = some (arr.toList.take es.flatten.length) := by
        rw [row?_of_block hb 0 _ (by omega), List.drop_zero]
      exact grow (some ⟨b, 0, none⟩) cap (arr.toList.take es.flatten.length) rfl (run_firstCells_some w.drew i.size es.length ⟨b, 0, none⟩ es.length cap _ (by
        simp only [List.length_take, Array.length_toList]
        rw [hel] at hle ⊢; omega) (fun j v hj => by
        rw [Addr.add_lit]; exact row?_cell hrow hj)) hr hen (by omega)
end
end Go.Sh

/- The first part of a region of open order, by its shadow. -/
namespace Go.Sh
open Go
set_option linter.unusedVariables false
set_option linter.unusedSimpArgs false

section
variable {E : Env} {H : FHint} {call : Nat → List AV → Heap → R} {d : Nat} {G : Gh} {w : World} {st : St} {a : Act} {nt nn : Nat} {ops : Array Oper} {ro : Option Nat} {D : List Deferred}

/-- The first m operations, in whatever order; the others stand behind all of them. -/
theorem any_pre {ρ : Type} (ok : E.Ok) (hs : SoundC E.P call) (m : Nat) (hm : m ≤ ops.size) {G0 : Gh} {w0 : World} {K : St → Option ρ} {res : ρ} {Q : Exit → Act → World → Prop} {F : Nat}
    (hbehind : ∀ i o, ops[i]? = some o → m ≤ i → ∀ j, j < m → ∃ e ∈ o.after, Region.binds .any e = true ∧ e.on = j)
    (hbase : ∀ st a G w, K st = some res → RepSt d G w st a.tmps → a.tmps.size = nt → a.defers = D → Fr d G0 w0 G w → wpAnyIn (FF ro) nn E.P .any ops Q F (Array.replicate m true ++ Array.replicate (ops.size - m) false) a w)
    (hdo : drawOk H ops (ancs ops.toList []) ((indexed ops).take m) = true) :
    ∀ (fuel : Nat) (listed : Array Bool) (l : List (Nat × Oper)) (st : St) (a : Act) (G : Gh) (w : World), l = ((indexed ops).take m).filter (fun p => !listed.getD p.1 true) → l.length = fuel → listed.size = ops.size → (∀ i, m ≤ i → listed.getD i false = false) → Closed ops (fun i => listed.getD i false = true) →
      opsD E H nt call ops (ancs ops.toList []) l st K (fun _ _ => none) = some res → RepSt d G w st a.tmps → a.tmps.size = nt → a.defers = D → Fr d G0 w0 G w → wpAnyIn (FF ro) nn E.P .any ops Q (fuel + F) listed a w := by
  obtain ⟨d1, d2⟩ := drawOk_spec hdo
  obtain ⟨x1, x2⟩ := indexed_spec ops
  have hI : ((indexed ops).take m).map Prod.fst = List.range m := by
    rw [List.map_take, x1, List.take_range, Nat.min_eq_left hm]
  have hI2 : ∀ p ∈ (indexed ops).take m, ops[p.1]? = some p.2 := fun p hp => x2 p (List.mem_of_mem_take hp)
  have hin : ∀ {i : Nat} {o : Oper}, i < m → ops[i]? = some o → (i, o) ∈ (indexed ops).take m := by
    intro i o hi h
    have hi : i ∈ ((indexed ops).take m).map Prod.fst := by rw [hI, List.mem_range]; exact hi
    obtain ⟨p, hp, e⟩ := List.mem_map.1 hi
    have := hI2 p hp
    rw [e, h] at this
    have := Option.some.inj this
    subst e; rw [this]; exact hp
  have hnd : (((indexed ops).take m).map Prod.fst).Nodup := by rw [hI]; exact List.nodup_range
  intro fuel
  induction fuel with
  | zero =>
    intro listed l st a G w hl hlen hsz hfar hcl h r hnt hd hf
    have : l = [] := List.eq_nil_of_length_eq_zero (by omega)
    subst this
    have hall : listed = Array.replicate m true ++ Array.replicate (ops.size - m) false := by
      refine Array.ext_getElem? fun i => ?_
      by_cases hi : i < m
      · rw [Array.getElem?_append_left (by simpa using hi)]
        have hio : i < ops.size := by omega
        have h1 : (i, ops[i]) ∈ (indexed ops).take m := hin hi (Array.getElem?_eq_getElem hio)
        cases e : listed.getD i true with
        | false =>
          exfalso
          have : (i, ops[i]) ∈ ([] : List (Nat × Oper)) := by
            rw [hl]; exact List.mem_filter.2 ⟨h1, by simp only [e]; rfl⟩
          cases this
        | true =>
          rw [Array.getD_eq_getD_getElem?, Array.getElem?_eq_getElem (by omega)] at e
          rw [Array.getElem?_eq_getElem (by omega)]
          simp only [Option.getD_some] at e
          rw [e]; simp [hi]
      · rw [Array.getElem?_append_right (by simpa using hi)]
        simp only [Array.size_replicate, Array.getElem?_replicate]
        by_cases hio : i < ops.size
        · have := hfar i (by omega)
          rw [Array.getD_eq_getD_getElem?, Array.getElem?_eq_getElem (by omega)] at this
          rw [Array.getElem?_eq_getElem (by omega)]
          simp only [Option.getD_some] at this
          rw [this, if_pos (by omega)]
        · rw [Array.getElem?_eq_none (by omega), if_neg (by omega)]
    rw [hall, Nat.zero_add]
    exact hbase st a G w h r hnt hd hf
  | succ fuel ih =>
    intro listed l st a G w hl hlen hsz hfar hcl h r hnt hd hf
    -- one of the first m is left
    obtain ⟨j0, hj0, hj0'⟩ : ∃ j, j < m ∧ listed.getD j true = false := by
      cases l with
      | nil => simp at hlen
      | cons p l =>
        have hp : p ∈ ((indexed ops).take m).filter (fun p => !listed.getD p.1 true) := by rw [← hl]; exact List.mem_cons_self
        obtain ⟨hp1, hp2⟩ := List.mem_filter.1 hp
        refine ⟨p.1, ?_, by simpa using hp2⟩
        have : p.1 ∈ ((indexed ops).take m).map Prod.fst := List.mem_map_of_mem hp1
        rw [hI, List.mem_range] at this; exact this
    rw [Nat.succ_add]
    refine ⟨fun hr => ?_, fun i hi => ?_⟩
    · exfalso
      have key : ∀ n i o, i ≤ n → i < m → ops[i]? = some o → listed.getD i true = false → False := by
        intro n
        induction n using Nat.strongRecOn with
        | _ n ihn =>
          intro i o hin' him ho hli
          have : i ∈ Region.ready .any ops listed := by
            rw [mem_ready]
            refine ⟨hli, o, ho, fun e he hb => ?_⟩
            have hlt := d1 _ (hin him ho) e he hb
            cases hle : listed.getD e.on true with
            | true =>
              have hlt2 : e.on < listed.size := by
                have := (Array.getElem?_eq_some_iff.1 ho).1
                rw [hsz]; exact Nat.lt_trans hlt this
              rw [Array.getD_eq_getD_getElem?, Array.getElem?_eq_getElem hlt2] at hle ⊢
              exact hle
            | false =>
              exfalso
              have hlt3 : e.on < ops.size := Nat.lt_trans hlt (Array.getElem?_eq_some_iff.1 ho).1
              exact ihn e.on (by omega) e.on _ (Nat.le_refl _) (by omega) (Array.getElem?_eq_getElem hlt3) hle
          rw [hr] at this; cases this
      exact key j0 j0 _ (Nat.le_refl _) hj0 (Array.getElem?_eq_getElem (by omega)) hj0'
    · rw [mem_ready] at hi
      obtain ⟨h1, o, h2, h3⟩ := hi
      have him : i < m := by
        rcases Nat.lt_or_ge i m with h | h
        · exact h
        · exfalso
          obtain ⟨e, he, hb, hon⟩ := hbehind i o h2 h j0 hj0
          have := h3 e he hb
          rw [hon] at this
          rw [Array.getD_eq_getD_getElem?, Array.getElem?_eq_getElem (by omega)] at this hj0'
          simp only [Option.getD_some] at this hj0'
          rw [this] at hj0'; cases hj0'
      have hmem : (i, o) ∈ l := by rw [hl]; exact List.mem_filter.2 ⟨hin him h2, by rw [h1]; rfl⟩
      obtain ⟨l1, l2, hsplit⟩ := List.append_of_mem hmem
      have hsub : ∀ q ∈ l1, ((ancs ops.toList []).getD q.1 0).testBit i = false ∧ (((ancs ops.toList []).getD i 0).testBit q.1 = true ∨ Past H ops q.2 o) := by
        intro q hq1
        have hq2 : [q, (i, o)].Sublist ((indexed ops).take m) := by
          have s1 : [q, (i, o)].Sublist l := by
            rw [hsplit]
            have : [q].Sublist l1 := List.singleton_sublist.2 hq1
            exact this.append (List.cons_sublist_cons.2 (List.nil_sublist _))
          rw [hl] at s1
          exact s1.trans List.filter_sublist
        obtain ⟨m1, m2, hmm, hqm, him⟩ : ∃ m1 m2, (indexed ops).take m = m1 ++ m2 ∧ q ∈ m1 ∧ (i, o) ∈ m2 := by
          obtain ⟨m1, m2, hmm, s1, s2⟩ := List.cons_sublist_iff.1 hq2
          exact ⟨m1, m2, hmm, s1, List.singleton_sublist.1 s2⟩
        obtain ⟨n1, n2, hn⟩ := List.append_of_mem him
        exact d2 (m1 ++ n1) n2 (i, o) (by rw [hmm, hn, List.append_assoc]) q (List.mem_append_left _ hqm)
      have hpast : ∀ q ∈ l1, Past H ops q.2 o ∧ ((ancs ops.toList []).getD q.1 0).testBit i = false ∧ ((ancs ops.toList []).getD i 0).testBit q.1 = false := by
        intro q hq1
        obtain ⟨k1, k2⟩ := hsub q hq1
        have hnot : ((ancs ops.toList []).getD i 0).testBit q.1 = false := by
          cases hb : ((ancs ops.toList []).getD i 0).testBit q.1 with
          | false => rfl
          | true =>
            exfalso
            have := anc_behind hb (fun k => listed.getD k false = true) hcl (fun o' ho' e he hbi => by
              rw [h2] at ho'; cases ho'; exact h3 e he hbi)
            have hql : q ∈ l := by rw [hsplit]; exact List.mem_append_left _ hq1
            rw [hl] at hql
            have h4 := (List.mem_filter.1 hql).2
            have hqs : q.1 < listed.size := by
              rw [hsz]; exact (Array.getElem?_eq_some_iff.1 (hI2 q (List.mem_filter.1 hql).1)).1
            rw [Array.getD_eq_getD_getElem?, Array.getElem?_eq_getElem hqs] at this h4
            have this : listed[q.1] = true := this
            simp [this] at h4
        exact ⟨k2.resolve_left (by rw [hnot]; simp), k1, hnot⟩
      rw [hsplit] at h
      have h := opsD_front l1 st hpast h
      have hil : i < listed.size := by rw [hsz]; exact (Array.getElem?_eq_some_iff.1 h2).1
      have hl' : l1 ++ l2 = ((indexed ops).take m).filter (fun p => !(listed.setIfInBounds i true).getD p.1 true) := by
        have e1 : ((indexed ops).take m).filter (fun p => !(listed.setIfInBounds i true).getD p.1 true) = l.filter (fun p => p.1 != i) := by
          rw [hl, List.filter_filter]
          refine List.filter_congr fun p hp => ?_
          by_cases e : p.1 = i
          · subst e
            simp [hil]
          · rw [getD_set_ne true (fun e' => e e'.symm)]
            simp [e]
        rw [e1, hsplit, List.filter_append, List.filter_cons]
        have hnd2 : (l.map Prod.fst).Nodup := by
          rw [hl]; exact (List.filter_sublist.map Prod.fst).nodup hnd
        rw [hsplit, List.map_append, List.map_cons, List.nodup_append] at hnd2
        obtain ⟨_, n2, n3⟩ := hnd2
        simp only [bne_self_eq_false, Bool.false_eq_true, if_false]
        congr 1
        · refine (List.filter_eq_self.2 fun p hp => ?_).symm
          have := n3 p.1 (List.mem_map_of_mem hp) i List.mem_cons_self
          simpa using this
        · refine (List.filter_eq_self.2 fun p hp => ?_).symm
          have := (List.nodup_cons.1 n2).1
          have hne : p.1 ≠ i := fun e => this (List.mem_map.2 ⟨p, hp, e⟩)
          simpa using hne
      have hlen' : (l1 ++ l2).length = fuel := by
        have := congrArg List.length hsplit
        simp only [List.length_append, List.length_cons] at this ⊢
        omega
      have hcl' : Closed ops (fun k => (listed.setIfInBounds i true).getD k false = true) := by
        intro k o' ho' hk e he hbi
        by_cases ek : k = i
        · subst ek
          rw [h2] at ho'; cases ho'
          exact getD_set_true (h3 e he hbi)
        · have hk' : (listed.setIfInBounds i true).getD k false = true := hk
          rw [getD_set_ne false (fun e' => ek e'.symm)] at hk'
          exact getD_set_true (hcl k o' ho' hk' e he hbi)
      have hfar' : ∀ k, m ≤ k → (listed.setIfInBounds i true).getD k false = false := fun k hk => by
        rw [getD_set_ne false (by omega)]; exact hfar k hk
      rcases opsD_cons.1 h with ⟨st1, k1, k2⟩ | ⟨p, k1, hw, k2⟩
      · have hstep := step_ok (ro := ro) (nn := nn) ok hs h2 hnt r k1
        refine hstep.1 st1 rfl _ _ fun a' G' w' r' hnt' hd' hf' => ?_
        exact ih _ (l1 ++ l2) st1 a' G' w' hl' hlen' (by simpa using hsz) hfar' hcl' k2 r' hnt' (hd'.trans hd) (hf.trans hf')
      · have := restK_x k2
        cases this
end
end Go.Sh

/- An append whose element is laid behind: the second half of its region, and the region that follows. -/
namespace Go.Sh
open Go
set_option linter.unusedVariables false
set_option linter.unusedSimpArgs false

section
variable {E : Env} {H : FHint} {d : Nat} {G : Gh} {w : World} {st : St} {a : Act} {nt nn : Nat} {ops : Array Oper} {ro : Option Nat} {o : Oper}

theorem op_run {i : Nat} (hi : ops[i]? = some o) (hg : o.guard = none) (hnd : ∀ c, o.op ≠ .defer c) {v : Value} {w' : World} (hrun : (execOp a.eval o).run E.P w = .ok (.value v) w') {K : Act → World → Prop} {Q : Exit → Act → World → Prop} (hK : K (a.put o.dst v) w') : wpOpIn (FF ro) nn E.P ops Q i K a w := by
  unfold wpOpIn
  rw [hi]
  simp only [Region.wanted, hg, if_true]
  exact wp_in ro hnd (by unfold Oper.wp; rw [hrun, Oper.upon_value]; exact hK)
theorem op_skip {i : Nat} (hi : ops[i]? = some o) (hg : o.guard = none) (hnd : ∀ c, o.op ≠ .defer c) {w' : World} (hrun : (execOp a.eval o).run E.P w = .ok .skip w') {K : Act → World → Prop} {Q : Exit → Act → World → Prop} (hK : K (a.put o.dst undef) w') : wpOpIn (FF ro) nn E.P ops Q i K a w := by
  unfold wpOpIn
  rw [hi]
  simp only [Region.wanted, hg, if_true]
  exact wp_in ro hnd (by unfold Oper.wp; rw [hrun, Oper.upon_skip]; exact hK)

theorem eval_put {t i : Nat} {v : Value} (ht : t < a.tmps.size) : (a.put (some t) v).eval (.tmp i) = if i = t then v else a.eval (.tmp i) := by
  show ((a.put (some t) v).tmps).getD i undef = _
  rw [put_tmps]
  exact getD_put _ _ _ _ ht
theorem size_put {t : Option Nat} {v : Value} : (a.put t v).tmps.size = a.tmps.size := by rw [put_tmps, putT_size]

theorem any_one {P : Program} {Q : Exit → Act → World → Prop} {F : Nat} {L : Array Bool} {i : Nat} (hr : Region.ready .any ops L = [i]) (h : wpOpIn (FF ro) nn P ops Q i (wpAnyIn (FF ro) nn P .any ops Q F (L.setIfInBounds i true)) a w) : wpAnyIn (FF ro) nn P .any ops Q (F + 1) L a w := by
  refine ⟨fun e => ?_, fun j hj => ?_⟩
  · rw [hr] at e; cases e
  · rw [hr, List.mem_singleton] at hj
    subst hj; exact h

theorem index_run {P : Program} {T el : TypeId} {n b o len cap : Nat} {j : Int} (hu : P.underlying T = some (.slice el)) (hsz : (sizeOf el).run P w = .ok n w) (h0 : 0 ≤ j) (hj : j < (len : Int)) {x y : Operand} (hx : a.eval x = .slice (some ⟨b, o, none⟩) len cap) (hy : a.eval y = .int .i64 j) {q : Oper} (ho : q.op = .indexAddr T x y) :
    (execOp a.eval q).run P w = .ok (.value (.pointer (some ⟨b, o + j.toNat * n, none⟩))) w := by
  unfold execOp; rw [ho]
  simp only [Instr.indexAt, hy, asIntOf, Sem.run_bind, Sem.run_pure, Result.andThen_ok, hx, run_underlying hu w]
  simp [h0, hj, hsz, Addr.add_mid]

theorem append_other (ok : E.Ok) {ops3 : Array Oper} {o12 o13 o14 o15 q0 q1 : Oper} {TL TN TT TE : TypeId} {fld id nL n : Nat} {fo : Nat × TI} {iE iT : TI} {L : Array Bool}
    (h12 : ops[12]? = some o12) (p12 : o12.op = .call { callee := .builtin .append, args := #[.tmp 16, .tmp 19], argTypes := #[TT, TT] }) (g12 : o12.guard = none) (d12 : o12.dst = some 20)
    (h13 : ops[13]? = some o13) (p13 : o13.op = .indexAddr TL (.tmp 11) (.tmp 13)) (g13 : o13.guard = none) (d13 : o13.dst = some 21)
    (h14 : ops[14]? = some o14) (p14 : o14.op = .fieldAddr TN (.tmp 21) fld) (g14 : o14.guard = none) (d14 : o14.dst = some 22)
    (h15 : ops[15]? = some o15) (p15 : o15.op = .store TT (.tmp 22) (.tmp 20)) (g15 : o15.guard = none) (d15 : o15.dst = none)
    (f0 : ops3[0]? = some q0) (p0 : q0.op = .indexAddr TT (.tmp 20) (.tmp 18)) (g0 : q0.guard = none) (d0 : q0.dst = some 23)
    (f1 : ops3[1]? = some q1) (p1 : q1.op = .store TE (.tmp 23) (.tmp 17)) (g1 : q1.guard = none) (d1 : q1.dst = none) (f2 : ops3.size = 2)
    (r12 : Region.ready .any ops L = [12]) (r13 : Region.ready .any ops (L.setIfInBounds 12 true) = [13]) (r14 : Region.ready .any ops ((L.setIfInBounds 12 true).setIfInBounds 13 true) = [14])
    (r15 : Region.ready .any ops (((L.setIfInBounds 12 true).setIfInBounds 13 true).setIfInBounds 14 true) = [15]) (r16 : Region.ready .any ops ((((L.setIfInBounds 12 true).setIfInBounds 13 true).setIfInBounds 14 true).setIfInBounds 15 true) = [])
    (eL : elemSize E TL = some nL) (eF : fieldOf E TN fld = some fo) (eF0 : Nat.beq fo.2.size 0 = false) (eT : E.ty TT = some iT) (eT1 : iT.size = 1) (eTd : iT.desc = .slice TE) (eE : E.ty TE = some iE) (eEn : iE.size = n) (eEb : iE.bytes ≤ 16384) (eEz : iE.zero.length = n)
    (hnt : a.tmps.size = nt) (hn24 : 24 ≤ nt) (r : RepSt d G w st a.tmps) {j off len : Nat} {N : Int} {es : List (List AV)} {s ph : List AV} {h2 : Heap}
    (s11 : st.s 11 = .c (.v (.hs nL j off len))) (s13 : st.s 13 = .c (.v (.lit (.int .i64 N)))) (hN0 : 0 ≤ N) (hN : N.toNat < len) (s16 : st.s 16 = .c (.own n es)) (s17 : st.s 17 = .c (.v (.agg s))) (hs : s.length = n)
    (s18 : st.s 18 = .c (.v (.lit (.int .i64 es.length)))) (s19 : st.s 19 = .c (.own n [ph])) (hp20 : st.pb 20 = false) (hst : hstore st.h j (off + N.toNat * nL + fo.1) [.own n (es ++ [s])] = some h2) (hm : es.length + 1 ≤ maxApp)
    {Q Q3 : Exit → Act → World → Prop} (hQ : ∀ a' w', (Code.region id ops3 false).wpIn (FF ro) nn E.P Q3 a' w' → Q .normal a' w')
    (hQ3 : ∀ a' w' G', RepHeap G' w' h2 → Within G' w' → Fr d G w G' w' → a'.defers = a.defers → Q3 .normal a' w') :
    wpAnyIn (FF ro) nn E.P .any ops Q 4 L a w := by
  have htT := ok.ty TT iT eT
  have htE := ok.ty TE iE eE
  have hund : E.P.underlying TT = some (.slice TE) := by rw [htT.und, eTd]
  obtain ⟨elL, iL, hundL, heL, hszL, htL⟩ := elemSize_ok ok eL
  obtain ⟨ti, z, e1, e2, e3, e4, e5, e6, e7, e8⟩ := htE.info
  have hzs : z.cells.size = ti.size := by
    have := congrArg List.length e5
    rw [e2]; simpa [e8] using this
  -- what the slots hold
  have v11 := r.slot 11; rw [s11] at v11
  have v13 := r.slot 13; rw [s13] at v13
  have v17 := r.slot 17; rw [s17] at v17
  have v18 := r.slot 18; rw [s18] at v18
  have v19 := r.slot 19; rw [s19] at v19
  have v11 : RepA G.S w G.μ (.hs nL j off len) (a.tmps.getD 11 undef) := v11
  have v13 : a.tmps.getD 13 undef = .int .i64 N := RepA.litE v13
  have v18 : a.tmps.getD 18 undef = .int .i64 es.length := RepA.litE v18
  have v17 : RepA G.S w G.μ (.agg s) (a.tmps.getD 17 undef) := v17
  have v19 : RepA G.S w G.μ (.sl n [ph]) (a.tmps.getD 19 undef) := RepCell.get (c := .own n [ph]) (p := .sl d 19) v19
  generalize hX11 : a.tmps.getD 11 undef = X11 at v11
  generalize hX17 : a.tmps.getD 17 undef = X17 at v17
  cases v11 with
  | hs _ _ capL hμ hcapL =>
  rename_i bj
  cases v17 with
  | agg v17 =>
  rename_i arr17
  obtain ⟨news, hsrc, hnews, hnl⟩ := src_rep (P := E.P) (T' := TT) hund v19
  have hnl : news.length = n := by simpa using hnl
  obtain ⟨G1, rr, k1, k2, k3, k4, _⟩ := release r s16 (.sl d 20)
  obtain ⟨w1, w1', G2, b, cap, arr, Tb, t1, t2, t3, t4, t5, t6, t7, t8, t9, t10⟩ := app_twin (ty := o12.type) (T' := TT) rr (show 20 < a.tmps.size by omega) hp20 hund e1 e4 hzs (by rw [e3]; exact eEb) (show ti.size = n by rw [e2]; exact eEn) k1 hsrc hnl (by rw [k3, k4]; exact v17) hs hm
  -- the header's cell
  have hμ2 : G2.μ[j]? = some bj := t8.ext.mu j bj (k2.ext.mu j bj hμ)
  obtain ⟨G3, r3, c1, c2, c3, c4, c5⟩ := release (u := 20) (n := n) (es := es ++ [s]) t7 (by simp [ups, upd]) (.hc j (off + N.toNat * nL + fo.1))
  have hget20 : (putT a.tmps (some 20) (.slice (some ⟨b, 0, none⟩) (es.length + 1) cap)).getD 20 undef = .slice (some ⟨b, 0, none⟩) (es.length + 1) cap := by
    show (a.tmps.setIfInBounds 20 _).getD 20 undef = _
    rw [getD_put _ _ _ _ (by omega), if_pos rfl]
  rw [hget20] at c1
  have hbox : RepBox G3 w1' (fun k => .hc j (off + N.toNat * nL + fo.1 + k)) [.own n (es ++ [s])] #[.slice (some ⟨b, 0, none⟩) (es.length + 1) cap] := by
    refine ⟨rfl, fun i c hi => ?_⟩
    cases i with
    | zero => simp at hi; subst hi; exact ⟨_, rfl, c1, rfl⟩
    | succ i => simp at hi
  have r3' : RepSt d G3 w1' { s := upd (ups (upd st.s 16 .dead) [(20, .c (.own n (es ++ [s])))]) 20 .dead, h := st.h, pb := addPb st.pb [(20, .c (.own n (es ++ [s])))] } (a.put (some 20) (.slice (some ⟨b, 0, none⟩) (es.length + 1) cap)).tmps := by
    rw [put_tmps]; exact r3
  obtain ⟨arrj, Tj, x1, x2, x3, x4⟩ := store_heap r3' (b := bj) (by rw [c4]; exact hμ2) hst hbox
  have hOj : G2.O bj = .hb j := by
    obtain ⟨old, hold, _⟩ := Option.bind_eq_some_iff.1 (show (st.h[j]?).bind _ = some h2 from hst)
    obtain ⟨b', _, _, y1, y2, _⟩ := t7.heap.2 j old hold
    rw [hμ2] at y1; cases y1; exact y2
  have hOb : G2.O b = .sl d 20 := by
    have := t7.slot 20
    rw [hget20] at this
    have hs20 : ups { s := upd st.s 16 .dead, h := st.h, pb := st.pb : St}.s [(20, Slot.c (.own n (es ++ [s])))] 20 = .c (.own n (es ++ [s])) := by simp [ups, upd]
    have this : RepSlot G2 w1' d 20 (ups { s := upd st.s 16 .dead, h := st.h, pb := st.pb : St}.s [(20, Slot.c (.own n (es ++ [s])))] 20) (.slice (some ⟨b, 0, none⟩) (es.length + 1) cap) := this
    rw [hs20] at this
    rcases this with ⟨h, _⟩ | ⟨b', _, _, _, h, ho, _⟩
    · cases h
    · have : b = b' := congrArg Addr.block (Option.some.inj (Value.slice.inj h).1)
      rw [this]; exact ho
  have hne : b ≠ bj := fun e => by rw [e, hOj] at hOb; cases hOb
  have hw1j : w1.heap[bj]? = some (.cells arrj Tj (0, 0)) := by
    rw [t6] at x1
    rwa [heap_setCells_other b _ _ _ (fun e => hne e.symm)] at x1
  have x2 : off + N.toNat * nL + fo.1 + 1 ≤ arrj.size := by simpa using x2
  -- the operations
  refine any_one r12 (op_run h12 g12 (by rw [p12]; intro c h; cases h) (v := .slice (some ⟨b, 0, none⟩) (es.length + 1) cap) (w' := w1) ?_ ?_)
  · rw [run_builtin (b := .append) E.P p12 rfl]
    simp only [List.map_toArray, List.map_cons, List.map_nil]
    generalize hV16 : a.tmps.getD 16 undef = V16 at t1
    generalize hV19 : a.tmps.getD 19 undef = V19 at t1
    have h16 : a.eval (.tmp 16) = V16 := hV16
    have h19 : a.eval (.tmp 19) = V19 := hV19
    simp [builtin, h16, h19, t1]
  rw [d12]
  have z1 : (a.put (some 20) (.slice (some ⟨b, 0, none⟩) (es.length + 1) cap)).tmps.size = nt := by rw [size_put, hnt]
  have ev1 : ∀ i, i ≠ 20 → (a.put (some 20) (.slice (some ⟨b, 0, none⟩) (es.length + 1) cap)).eval (.tmp i) = a.tmps.getD i undef := fun i hi => by
    rw [eval_put (by omega), if_neg hi]; rfl
  have ev20 : (a.put (some 20) (.slice (some ⟨b, 0, none⟩) (es.length + 1) cap)).eval (.tmp 20) = .slice (some ⟨b, 0, none⟩) (es.length + 1) cap := by rw [eval_put (by omega), if_pos rfl]
  have dd1 : (a.put (some 20) (.slice (some ⟨b, 0, none⟩) (es.length + 1) cap)).defers = a.defers := put_defers _ _ _
  generalize a.put (some 20) (.slice (some ⟨b, 0, none⟩) (es.length + 1) cap) = a1 at z1 ev1 ev20 dd1
  refine any_one r13 (op_run h13 g13 (by rw [p13]; intro c h; cases h) (index_run hundL (by rw [htL.size w1, hszL]) hN0 (show N < (len : Int) by omega) (by rw [ev1 11 (by decide), hX11]) (by rw [ev1 13 (by decide), v13]) p13) ?_)
  rw [d13]
  have z2 : (a1.put (some 21) (.pointer (some ⟨bj, off + N.toNat * nL, none⟩))).tmps.size = nt := by rw [size_put, z1]
  have ev21 : (a1.put (some 21) (.pointer (some ⟨bj, off + N.toNat * nL, none⟩))).eval (.tmp 21) = .pointer (some ⟨bj, off + N.toNat * nL, none⟩) := by rw [eval_put (by omega), if_pos rfl]
  have ev2 : ∀ i, i ≠ 21 → (a1.put (some 21) (.pointer (some ⟨bj, off + N.toNat * nL, none⟩))).eval (.tmp i) = a1.eval (.tmp i) := fun i hi => by rw [eval_put (by omega), if_neg hi]
  have dd2 : (a1.put (some 21) (.pointer (some ⟨bj, off + N.toNat * nL, none⟩))).defers = a.defers := (put_defers _ _ _).trans dd1
  generalize a1.put (some 21) (.pointer (some ⟨bj, off + N.toNat * nL, none⟩)) = a2 at z2 ev21 ev2 dd2
  refine any_one r14 (op_run h14 g14 (by rw [p14]; intro c h; cases h) (v := .pointer (some ⟨bj, off + N.toNat * nL + fo.1, none⟩)) (w' := w1) ?_ ?_)
  · unfold execOp; rw [p14]; simp only [ev21, Sem.run_bind, fieldAt_run ok eF eF0 bj _ w1]; rfl
  rw [d14]
  have z3 : (a2.put (some 22) (.pointer (some ⟨bj, off + N.toNat * nL + fo.1, none⟩))).tmps.size = nt := by rw [size_put, z2]
  have ev22 : (a2.put (some 22) (.pointer (some ⟨bj, off + N.toNat * nL + fo.1, none⟩))).eval (.tmp 22) = .pointer (some ⟨bj, off + N.toNat * nL + fo.1, none⟩) := by rw [eval_put (by omega), if_pos rfl]
  have ev3 : ∀ i, i ≠ 22 → (a2.put (some 22) (.pointer (some ⟨bj, off + N.toNat * nL + fo.1, none⟩))).eval (.tmp i) = a2.eval (.tmp i) := fun i hi => by rw [eval_put (by omega), if_neg hi]
  have dd3 : (a2.put (some 22) (.pointer (some ⟨bj, off + N.toNat * nL + fo.1, none⟩))).defers = a.defers := (put_defers _ _ _).trans dd2
  generalize a2.put (some 22) (.pointer (some ⟨bj, off + N.toNat * nL + fo.1, none⟩)) = a3 at z3 ev22 ev3 dd3
  have e20 : a3.eval (.tmp 20) = .slice (some ⟨b, 0, none⟩) (es.length + 1) cap := by rw [ev3 20 (by decide), ev2 20 (by decide), ev20]
  refine any_one r15 (op_skip h15 g15 (by rw [p15]; intro c h; cases h) (w' := w1.setCells bj (off + N.toNat * nL + fo.1) [.slice (some ⟨b, 0, none⟩) (es.length + 1) cap]) ?_ ⟨r16, ?_⟩)
  · unfold execOp; rw [p15]
    have hc : (Value.slice (some ⟨b, 0, none⟩) (es.length + 1) cap).cells = #[.slice (some ⟨b, 0, none⟩) (es.length + 1) cap] := rfl
    have := store_run ok eT hw1j (X := .slice (some ⟨b, 0, none⟩) (es.length + 1) cap) (by rw [eT1]; rfl) (by rw [hc]; simpa using x2) (fun v hv => by rw [hc] at hv; simp at hv; subst hv; rfl)
    simp only [ev22, e20, Sem.run_bind, this]
    rfl
  rw [d15]
  have ev4 : ∀ i, (a3.put none undef).eval (.tmp i) = a3.eval (.tmp i) := fun i => rfl
  have z4 : (a3.put none undef).tmps.size = nt := z3
  have dd4 : (a3.put none undef).defers = a.defers := dd3
  generalize a3.put none undef = a4 at ev4 z4 dd4
  refine hQ _ _ (wpIn_region ?_)
  rw [f2, show List.range 2 = [0, 1] from rfl, wpOpsIn_cons]
  have hlen : (0 : Int) ≤ (es.length : Int) := Int.natCast_nonneg _
  refine op_run f0 g0 (by rw [p0]; intro c h; cases h) (index_run hund (by rw [htE.size _, eEn]) hlen (show (es.length : Int) < ((es.length + 1 : Nat) : Int) by omega) (by rw [ev4, e20]) (by rw [ev4, ev3 18 (by decide), ev2 18 (by decide), ev1 18 (by decide), v18]) p0) ?_
  rw [d0, wpOpsIn_cons, Nat.zero_add, Int.toNat_natCast]
  have ev23 : (a4.put (some 23) (.pointer (some ⟨b, es.length * n, none⟩))).eval (.tmp 23) = .pointer (some ⟨b, es.length * n, none⟩) := by rw [eval_put (by omega), if_pos rfl]
  have ev5 : (a4.put (some 23) (.pointer (some ⟨b, es.length * n, none⟩))).eval (.tmp 17) = .agg arr17 := by rw [eval_put (by omega), if_neg (by decide), ev4, ev3 17 (by decide), ev2 17 (by decide), ev1 17 (by decide), hX17]
  have dd5 : (a4.put (some 23) (.pointer (some ⟨b, es.length * n, none⟩))).defers = a.defers := (put_defers _ _ _).trans dd4
  generalize a4.put (some 23) (.pointer (some ⟨b, es.length * n, none⟩)) = a5 at ev23 ev5 dd5
  have hc17 : (Value.agg arr17).cells = arr17 := rfl
  have hl17 : arr17.size = n := by have := v17.length; rw [hs] at this; simpa using this.symm
  refine op_skip f1 g1 (by rw [p1]; intro c h; cases h) (w' := (w1.setCells bj (off + N.toNat * nL + fo.1) [.slice (some ⟨b, 0, none⟩) (es.length + 1) cap]).setCells b (es.length * n) arr17.toList) ?_ ?_
  · unfold execOp; rw [p1]
    have := store_run ok eE (w := w1.setCells bj (off + N.toNat * nL + fo.1) [.slice (some ⟨b, 0, none⟩) (es.length + 1) cap]) (b := b) (off := es.length * n) (by rw [heap_setCells_other bj _ _ _ hne]; exact t3) (X := .agg arr17) (by rw [hc17, hl17, eEn]) (by rw [hc17, hl17]; rw [Nat.add_mul, Nat.one_mul] at t4; exact t4) (by rw [hc17]; exact v17.ones)
    simp only [ev23, ev5, Sem.run_bind, this]
    rfl
  rw [d1]
  rw [cells_comm (fun e => hne e.symm), ← t6]
  refine hQ3 _ _ G3 x3.heap x3.within ((k2.trans t8).trans (c2.trans x4)) dd5
end
end Go.Sh

/- A region that chooses freely: a truth value that is stored twice in open order. -/
namespace Go.Sh
open Go
set_option linter.unusedVariables false

section
variable {E : Env} {H : FHint} {d : Nat} {nt nn : Nat} {ops : Array Oper} {ro : Option Nat} {D : List Deferred}

theorem region_choice (ok : E.Ok) {id : Nat} {o0 o1 o2 o3 : Oper} (h0 : ops[0]? = some o0) (h1 : ops[1]? = some o1) (h2 : ops[2]? = some o2) (h3 : ops[3]? = some o3) (hsz : ops.size = 4)
    (r0 : Region.ready .any ops #[false, false, false, false] = [0]) (r1 : Region.ready .any ops #[true, false, false, false] = [1, 2]) (r2 : Region.ready .any ops #[true, true, false, false] = [2]) (r2' : Region.ready .any ops #[true, false, true, false] = [1])
    (r3 : Region.ready .any ops #[true, true, true, false] = [3]) (r4 : Region.ready .any ops #[true, true, true, true] = [])
    {st st1 st2 st3 st4 st2' st3' st4' : St} (s0 : stepD E H nt noCall ops 0 o0 st = some (.inl st1)) (s1 : stepD E H nt noCall ops 1 o1 st1 = some (.inl st2)) (s2 : stepD E H nt noCall ops 2 o2 st2 = some (.inl st3)) (s3 : stepD E H nt noCall ops 3 o3 st3 = some (.inl st4))
    (t2 : stepD E H nt noCall ops 2 o2 st1 = some (.inl st2')) (t1 : stepD E H nt noCall ops 1 o1 st2' = some (.inl st3')) (t3 : stepD E H nt noCall ops 3 o3 st3' = some (.inl st4'))
    {G0 : Gh} {w0 w : World} {a : Act} {Q : Exit → Act → World → Prop} (hat : AtSt d nt G0 w0 st a w) (hd : a.defers = D)
    (hQ : ∀ a' w', AtSt d nt G0 w0 st4 a' w' → a'.defers = D → Q .normal a' w') (hQ' : ∀ a' w', AtSt d nt G0 w0 st4' a' w' → a'.defers = D → Q .normal a' w') : (Code.region id ops true).wpIn (FF ro) nn E.P Q a w := by
  obtain ⟨G, r, hnt, hf⟩ := hat
  refine wpIn_region_any ok.mixed ?_
  rw [hsz]
  show wpAnyIn (FF ro) nn E.P .any ops Q (3 + 1) #[false, false, false, false] a w.drew
  refine any_one r0 ?_
  refine (step_ok (ro := ro) (nn := nn) ok (noCall_ok _) h0 hnt r.drew s0).1 st1 rfl _ _ fun a1 G1 w1 q1 n1 e1 f1 => ?_
  show wpAnyIn (FF ro) nn E.P .any ops Q (2 + 1) #[true, false, false, false] a1 w1
  refine ⟨fun e => (by rw [r1] at e; cases e), fun i hi => ?_⟩
  rw [r1] at hi
  simp only [List.mem_cons, List.not_mem_nil, or_false] at hi
  rcases hi with rfl | rfl
  · refine (step_ok (ro := ro) (nn := nn) ok (noCall_ok _) h1 n1 q1 s1).1 st2 rfl _ _ fun a2 G2 w2 q2 n2 e2 f2 => ?_
    show wpAnyIn (FF ro) nn E.P .any ops Q (1 + 1) #[true, true, false, false] a2 w2
    refine any_one r2 ((step_ok (ro := ro) (nn := nn) ok (noCall_ok _) h2 n2 q2 s2).1 st3 rfl _ _ fun a3 G3 w3 q3 n3 e3 f3 => ?_)
    show wpAnyIn (FF ro) nn E.P .any ops Q (0 + 1) #[true, true, true, false] a3 w3
    refine any_one r3 ((step_ok (ro := ro) (nn := nn) ok (noCall_ok _) h3 n3 q3 s3).1 st4 rfl _ _ fun a4 G4 w4 q4 n4 e4 f4 => ⟨r4, ?_⟩)
    exact hQ a4 w4 ⟨G4, q4, n4, hf.trans (fr_drew.trans (f1.trans (f2.trans (f3.trans f4))))⟩ (e4.trans (e3.trans (e2.trans (e1.trans hd))))
  · refine (step_ok (ro := ro) (nn := nn) ok (noCall_ok _) h2 n1 q1 t2).1 st2' rfl _ _ fun a2 G2 w2 q2 n2 e2 f2 => ?_
    show wpAnyIn (FF ro) nn E.P .any ops Q (1 + 1) #[true, false, true, false] a2 w2
    refine any_one r2' ((step_ok (ro := ro) (nn := nn) ok (noCall_ok _) h1 n2 q2 t1).1 st3' rfl _ _ fun a3 G3 w3 q3 n3 e3 f3 => ?_)
    show wpAnyIn (FF ro) nn E.P .any ops Q (0 + 1) #[true, true, true, false] a3 w3
    refine any_one r3 ((step_ok (ro := ro) (nn := nn) ok (noCall_ok _) h3 n3 q3 t3).1 st4' rfl _ _ fun a4 G4 w4 q4 n4 e4 f4 => ⟨r4, ?_⟩)
    exact hQ' a4 w4 ⟨G4, q4, n4, hf.trans (fr_drew.trans (f1.trans (f2.trans (f3.trans f4))))⟩ (e4.trans (e3.trans (e2.trans (e1.trans hd))))
theorem behind_of {m : Nat} (h : ((List.range ops.size).all fun i => Nat.blt i m || (List.range m).all fun j => ((ops.getD i default).after.toList.any fun e => Region.binds .any e && Nat.beq e.on j)) = true) :
    ∀ i o, ops[i]? = some o → m ≤ i → ∀ j, j < m → ∃ e ∈ o.after, Region.binds .any e = true ∧ e.on = j := by
  intro i o ho hi j hj
  have hlt : i < ops.size := (Array.getElem?_eq_some_iff.1 ho).1
  have h1 := List.all_eq_true.1 h i (by simpa using hlt)
  simp only [Bool.or_eq_true, Nat.blt_eq] at h1
  rcases h1 with h1 | h1
  · omega
  · have h2 := List.all_eq_true.1 h1 j (by simpa using hj)
    obtain ⟨e, he, h3⟩ := List.any_eq_true.1 h2
    rw [Array.getD_eq_getD_getElem?, ho] at he
    simp only [Bool.and_eq_true] at h3
    exact ⟨e, by simpa using he, h3.1, Nat.eq_of_beq_eq_true h3.2⟩

/-- A region of open order whose last operations stand behind all others. -/
theorem draw_pre {ρ : Type} (ok : E.Ok) {call : Nat → List AV → Heap → R} (hs : SoundC E.P call) (m F : Nat) (hmF : ops.size = m + F) {G0 : Gh} {w0 w : World} {a : Act} {st : St} {K : St → Option ρ} {res : ρ} {Q : Exit → Act → World → Prop} {id : Nat}
    (hbehind : ∀ i o, ops[i]? = some o → m ≤ i → ∀ j, j < m → ∃ e ∈ o.after, Region.binds .any e = true ∧ e.on = j)
    (hbase : ∀ st a G w, K st = some res → RepSt d G w st a.tmps → a.tmps.size = nt → a.defers = D → Fr d G0 w0 G w → wpAnyIn (FF ro) nn E.P .any ops Q F (Array.replicate m true ++ Array.replicate (ops.size - m) false) a w)
    (hdo : drawOk H ops (ancs ops.toList []) ((indexed ops).take m) = true) (h : opsD E H nt call ops (ancs ops.toList []) ((indexed ops).take m) st K (fun _ _ => none) = some res) (hat : AtSt d nt G0 w0 st a w) (hd : a.defers = D) : (Code.region id ops true).wpIn (FF ro) nn E.P Q a w := by
  obtain ⟨G, r, hnt, hf⟩ := hat
  refine wpIn_region_any ok.mixed ?_
  have hlen : ((indexed ops).take m).length = m := by
    have := congrArg List.length (indexed_spec ops).1
    rw [List.length_map, List.length_range] at this
    rw [List.length_take, this]; omega
  have key := any_pre (ro := ro) (nn := nn) ok hs m (by omega) hbehind hbase hdo m (Array.replicate ops.size false) ((indexed ops).take m) st a G w.drew ?_ hlen (by simp) (fun i _ => ?_) ?_ h r.drew hnt hd (hf.trans fr_drew)
  · rw [hmF] at key ⊢; exact key
  · refine (List.filter_eq_self.2 fun p hp => ?_).symm
    have := (Array.getElem?_eq_some_iff.1 ((indexed_spec ops).2 p (List.mem_of_mem_take hp))).1
    simp [Array.getD_eq_getD_getElem?, this]
  · rw [Array.getD_eq_getD_getElem?, Array.getElem?_replicate]
    split <;> rfl
  · intro i o ho hi
    exfalso
    have hi : (Array.replicate ops.size false).getD i false = true := hi
    rw [Array.getD_eq_getD_getElem?, Array.getElem?_replicate] at hi
    split at hi <;> simp at hi

theorem hpart_cell {h : Heap} {i o n : Nat} {cs : List Cell} {c : Cell} (hi : h[i]? = some cs) (hc : cs[o]? = some c) : hpart false n o i h = some c.get := by
  unfold hpart partA
  rw [hi]
  simp [hc]
theorem indexH_at {n j off len : Nat} {N : Int} (h0 : 0 ≤ N) (hN : N.toNat < len) : indexH n (.hs n j off len) (.lit (.int .i64 N)) = some (j, off + N.toNat * n) := by
  unfold indexH
  simp [intOf, h0, hN]
theorem htake_at {h : Heap} {j o n : Nat} {cells : List Cell} {es : List (List AV)} (hj : h[j]? = some cells) (hc : cells[o]? = some (.own n es)) : htake h j o = some ((n, es), h.set j (cells.set o (.v (.sl n es)))) := by
  unfold htake
  rw [hj]
  simp [hc]
theorem splice_one {cs : List Cell} {o : Nat} {c : Cell} (h : o < cs.length) : splice cs o [c] = some (cs.set o c) := by
  unfold splice
  rw [show Nat.ble (o + ([c] : List Cell).length) cs.length = true from by rw [Nat.ble_eq]; exact h, cond_true, List.set_eq_take_append_cons_drop]
  simp [h]
theorem hstore_at {h : Heap} {j o : Nat} {cells : List Cell} {x c : Cell} (hj : h[j]? = some cells) (ho : o < cells.length) : hstore (h.set j (cells.set o x)) j o [c] = some (h.set j (cells.set o c)) := by
  have hl : j < h.length := (List.getElem?_eq_some_iff.1 hj).1
  unfold hstore
  rw [List.getElem?_set_self hl, Option.bind_some, splice_one (by simpa using ho)]
  simp
end
end Go.Sh

/- Types as plain data: what the shadow's cells of a type are. -/
namespace Go.Sh.T
set_option linter.unusedVariables false
set_option linter.unusedSimpArgs false
open Go Go.Sh

structure Ty where
  k : Int
  n : Int
  name : ByteArray
  labels : List ByteArray
  args : List Ty

def strC (s : ByteArray) : List AV := [.lit (.string s)]

mutual
def Ty.cells : Ty → List AV
  | ⟨k, n, s, ls, xs⟩ => [.lit (.int .i64 k), .lit (.int .i64 n), .lit (.string s), .sl 1 (ls.map strC), .sl 5 (Ty.cellsL xs)]
def Ty.cellsL : List Ty → List (List AV)
  | [] => []
  | t :: r => t.cells :: Ty.cellsL r
end

theorem Ty.cellsL_map : ∀ l : List Ty, Ty.cellsL l = l.map Ty.cells
  | [] => rfl
  | t :: r => by rw [Ty.cellsL, Ty.cellsL_map r]; rfl

theorem Ty.cells_eq (t : Ty) : t.cells = [.lit (.int .i64 t.k), .lit (.int .i64 t.n), .lit (.string t.name), .sl 1 (t.labels.map strC), .sl 5 (t.args.map Ty.cells)] := by
  cases t; rw [Ty.cells, Ty.cellsL_map]

@[simp] theorem Ty.cells_len (t : Ty) : t.cells.length = 5 := by rw [Ty.cells_eq]; rfl
@[simp] theorem Ty.c0 (t : Ty) : t.cells.getD 0 .dead = .lit (.int .i64 t.k) := by rw [Ty.cells_eq]; rfl
@[simp] theorem Ty.c1 (t : Ty) : t.cells.getD 1 .dead = .lit (.int .i64 t.n) := by rw [Ty.cells_eq]; rfl
@[simp] theorem Ty.c2 (t : Ty) : t.cells.getD 2 .dead = .lit (.string t.name) := by rw [Ty.cells_eq]; rfl
@[simp] theorem Ty.c3 (t : Ty) : t.cells.getD 3 .dead = .sl 1 (t.labels.map strC) := by rw [Ty.cells_eq]; rfl
@[simp] theorem Ty.c4 (t : Ty) : t.cells.getD 4 .dead = .sl 5 (t.args.map Ty.cells) := by rw [Ty.cells_eq]; rfl
theorem partA_full {n : Nat} {cs : List AV} (h : cs.length = n) : partA true n 0 cs = some (.agg cs) := by
  unfold partA
  subst h
  rw [Nat.zero_add, show Nat.ble cs.length cs.length = true from by simp, cond_true, cond_true, List.drop_zero, List.take_length]
theorem bind_some' {α β : Type} (a : α) (f : α → Option β) : (some a).bind f = f a := (Eq.refl _).trans rfl
theorem onOut_ret {ρ : Type} (a : AV) (h : Heap) (k1 : AV → Heap → Option ρ) (k2 : Nat → List (List AV) → Heap → Option ρ) (k3 : AV → Heap → Option ρ) : onOut (some (.ret a, h)) k1 k2 k3 = k1 a h := (Eq.refl _).trans rfl
theorem bin_int {E : Env} (op : BinOp) (T : TypeId) (k : IntKind) (x y : Int) : binAV E op T (.lit (.int k x)) (.lit (.int k y)) = intBin op k x y := by simp [binAV]
theorem indexA_map {α : Type} (l : List α) (f : α → List AV) (m : Nat) (i : Nat) (h : i < l.length) : indexA m (.sl m (l.map f)) (.lit (.int .i64 (i : Int))) = some (f l[i]) := by
  simp [indexA, slOf, intOf, h]

mutual
def Ty.nodes : Ty → Int
  | ⟨_, _, _, _, xs⟩ => Ty.nodesL 1 xs
def Ty.nodesL : Int → List Ty → Int
  | acc, [] => acc
  | acc, t :: r => Ty.nodesL (IntKind.i64.wrap (acc + t.nodes)) r
end

inductive Ty.Ok : Ty → Prop
  | mk {t : Ty} (hk : (Lit.int .i64 t.k).wf = true) (hn : (Lit.int .i64 t.n).wf = true) (hs : t.name.size ≤ maxLen) (hl : t.labels.length ≤ maxLen) (hls : ∀ s ∈ t.labels, s.size ≤ maxLen) (ha : t.args.length ≤ maxLen) (has : ∀ a ∈ t.args, a.Ok) : t.Ok

theorem Ty.Ok.len {t : Ty} (h : t.Ok) : t.args.length ≤ 9223372036854775807 := by cases h with | mk _ _ _ _ _ ha _ => exact ha
theorem Ty.Ok.arg {t : Ty} (h : t.Ok) {a : Ty} (ha : a ∈ t.args) : a.Ok := by cases h with | mk _ _ _ _ _ _ has => exact has a ha

theorem inc {i : Nat} (h : i < 9223372036854775807) : intBin .add .i64 (i : Int) 1 = some (.lit (.int .i64 ((i + 1 : Nat) : Int))) := by
  simp only [intBin]
  rw [IntWalk.i64_in _ (by omega)]
  simp

theorem Ty.size_arg {t : Ty} {i : Nat} (hi : i < t.args.length) : SizeOf.sizeOf t.args[i] < SizeOf.sizeOf t := by
  have := List.sizeOf_lt_of_mem (List.getElem_mem hi)
  cases t with
  | mk k n s ls xs => simp only [Ty.mk.sizeOf_spec] at *; omega

theorem nodesL_step {acc : Int} {l : List Ty} {i : Nat} (hi : i < l.length) : Ty.nodesL acc (l.drop i) = Ty.nodesL (IntKind.i64.wrap (acc + (l[i]).nodes)) (l.drop (i + 1)) := by
  rw [List.drop_eq_getElem_cons hi, Ty.nodesL]


mutual
def Ty.has (k : Int) : Ty → Bool
  | ⟨k', _, _, _, xs⟩ => k' == k || Ty.hasL k xs
def Ty.hasL (k : Int) : List Ty → Bool
  | [] => false
  | t :: r => t.has k || Ty.hasL k r
end
theorem Ty.has_eq (k : Int) (t : Ty) : t.has k = (t.k == k || Ty.hasL k t.args) := by cases t; rw [Ty.has]

theorem Ty.refold (t : Ty) : [t.cells.getD 0 .dead, t.cells.getD 1 .dead, t.cells.getD 2 .dead, t.cells.getD 3 .dead, t.cells.getD 4 .dead] = t.cells := by
  rw [Ty.cells_eq]; rfl

mutual
def Ty.pre : Ty → List Ty
  | ⟨k, n, s, ls, xs⟩ => ⟨k, n, s, ls, xs⟩ :: Ty.preL xs
def Ty.preL : List Ty → List Ty
  | [] => []
  | t :: r => t.pre ++ Ty.preL r
end
theorem Ty.pre_eq (t : Ty) : t.pre = t :: Ty.preL t.args := by cases t; rw [Ty.pre]
theorem Ty.preL_nil : Ty.preL [] = [] := by rw [Ty.preL]
theorem Ty.preL_cons (t : Ty) (r : List Ty) : Ty.preL (t :: r) = t.pre ++ Ty.preL r := by rw [Ty.preL]
mutual
theorem Ty.has_pre (k : Int) : ∀ t : Ty, t.has k = t.pre.any (fun x => x.k == k)
  | ⟨k', n, s, ls, xs⟩ => by rw [Ty.has, Ty.pre, List.any_cons, Ty.hasL_pre k xs]
theorem Ty.hasL_pre (k : Int) : ∀ l : List Ty, Ty.hasL k l = (Ty.preL l).any (fun x => x.k == k)
  | [] => by rw [Ty.hasL, Ty.preL]; rfl
  | t :: r => by rw [Ty.hasL, Ty.preL, List.any_append, Ty.has_pre k t, Ty.hasL_pre k r]
end

mutual
def Ty.small : Ty → Bool
  | ⟨_, _, _, _, xs⟩ => Nat.ble xs.length 9223372036854775807 && Ty.smallL xs
def Ty.smallL : List Ty → Bool
  | [] => true
  | t :: r => t.small && Ty.smallL r
end
mutual
theorem Ty.ok_small : ∀ t : Ty, t.Ok → t.small = true
  | ⟨k, n, s, ls, xs⟩, h => by
    rw [Ty.small, Bool.and_eq_true]
    exact ⟨by rw [Nat.ble_eq]; exact h.len, Ty.ok_smallL xs fun a ha => h.arg ha⟩
theorem Ty.ok_smallL : ∀ l : List Ty, (∀ a ∈ l, a.Ok) → Ty.smallL l = true
  | [], _ => by rw [Ty.smallL]
  | t :: r, h => by
    rw [Ty.smallL, Bool.and_eq_true]
    exact ⟨Ty.ok_small t (h t List.mem_cons_self), Ty.ok_smallL r fun a ha => h a (List.mem_cons_of_mem _ ha)⟩
end

/- reading a type back -/
def decS : List AV → Option ByteArray
  | [.lit (.string s)] => some s
  | _ => none
def decSs : List (List AV) → Option (List ByteArray)
  | [] => some []
  | x :: r => (decS x).bind fun s => (decSs r).bind fun l => some (s :: l)
mutual
def decA : AV → Option (List Ty)
  | .sl 5 es => decE es
  | _ => none
def decC : List AV → Option Ty
  | [] => none
  | a :: r => match a, r with
    | .lit (.int .i64 k), [.lit (.int .i64 n), .lit (.string s), .sl 1 ls, b] => (decSs ls).bind fun l => (decA b).bind fun xs => some ⟨k, n, s, l, xs⟩
    | _, _ => none
def decE : List (List AV) → Option (List Ty)
  | [] => some []
  | c :: r => (decC c).bind fun t => (decE r).bind fun l => some (t :: l)
end
theorem decS_ok : ∀ {x : List AV} {s : ByteArray}, decS x = some s → x = strC s := by
  intro x s h
  unfold decS at h
  split at h
  · have h := Option.some.inj h; subst h; rfl
  · cases h
theorem decSs_ok : ∀ {l : List (List AV)} {m : List ByteArray}, decSs l = some m → l = m.map strC
  | [], m, h => by cases h; rfl
  | x :: r, m, h => by
    unfold decSs at h
    rw [Option.bind_eq_some_iff] at h; obtain ⟨s, hs, h⟩ := h
    rw [Option.bind_eq_some_iff] at h; obtain ⟨l, hl, h⟩ := h
    have h := Option.some.inj h; subst h
    rw [decS_ok hs, decSs_ok hl]; rfl
mutual
theorem decA_ok : ∀ {a : AV} {l : List Ty}, decA a = some l → a = .sl 5 (l.map Ty.cells)
  | .sl n es, l, h => by
    unfold decA at h
    split at h
    · rename_i h1 h2; cases h2; rw [decE_ok h]
    · cases h
  | .lit _, l, h => by unfold decA at h; cases h
  | .agg _, l, h => by unfold decA at h; cases h
  | .tup _, l, h => by unfold decA at h; cases h
  | .hp _ _, l, h => by unfold decA at h; cases h
  | .ro _, l, h => by unfold decA at h; cases h
  | .fn _ _ _, l, h => by unfold decA at h; cases h
  | .ifc _ _, l, h => by unfold decA at h; cases h
  | .dead, l, h => by unfold decA at h; cases h
theorem decC_ok : ∀ {c : List AV} {t : Ty}, decC c = some t → c = t.cells
  | [], t, h => by unfold decC at h; cases h
  | a :: r, t, h => by
    unfold decC at h
    split at h
    · rename_i k n s ls b
      rw [Option.bind_eq_some_iff] at h; obtain ⟨l, hl, h⟩ := h
      rw [Option.bind_eq_some_iff] at h; obtain ⟨xs, hx, h⟩ := h
      have h := Option.some.inj h; subst h
      rw [Ty.cells_eq, decSs_ok hl, decA_ok hx]
    · cases h
theorem decE_ok : ∀ {es : List (List AV)} {l : List Ty}, decE es = some l → es = l.map Ty.cells
  | [], l, h => by unfold decE at h; cases h; rfl
  | c :: r, l, h => by
    unfold decE at h
    rw [Option.bind_eq_some_iff] at h; obtain ⟨t, ht, h⟩ := h
    rw [Option.bind_eq_some_iff] at h; obtain ⟨m, hm, h⟩ := h
    have h := Option.some.inj h; subst h
    rw [decC_ok ht, decE_ok hm]; rfl
end
theorem decSs_map : ∀ l : List ByteArray, decSs (l.map strC) = some l
  | [] => rfl
  | s :: r => by
    rw [List.map_cons, decSs, decSs_map r]; rfl
mutual
theorem decC_cells : ∀ t : Ty, decC t.cells = some t
  | ⟨k, n, s, ls, xs⟩ => by
    rw [Ty.cells, decC, decSs_map, decA, decE_cells xs]; rfl
theorem decE_cells : ∀ l : List Ty, decE (Ty.cellsL l) = some l
  | [] => by rw [Ty.cellsL, decE]
  | t :: r => by
    rw [Ty.cellsL, decE, decC_cells t, decE_cells r]; rfl
end

/- not by computing: the kernel is to compare nothing -/
theorem condF {α : Type} (x y : α) : cond false x y = y := by
  have h : ∀ b, b = false → cond b x y = y := by intro b hb; subst hb; rfl
  exact h false rfl
theorem condT {α : Type} (x y : α) : cond true x y = x := by
  have h : ∀ b, b = true → cond b x y = x := by intro b hb; subst hb; rfl
  exact h true rfl

def add64 (x y : Int) : Int := IntKind.i64.wrap (x + y)
def sub64 (x y : Int) : Int := IntKind.i64.wrap (x - y)
theorem lssI (x y : Int) : intBin .lss .i64 x y = some (.lit (.bool (decide (x < y)))) := (Eq.refl _).trans rfl
theorem gtrI (x y : Int) : intBin .gtr .i64 x y = some (.lit (.bool (decide (x > y)))) := (Eq.refl _).trans rfl
theorem leqI (x y : Int) : intBin .leq .i64 x y = some (.lit (.bool (decide (x ≤ y)))) := (Eq.refl _).trans rfl
theorem geqI (x y : Int) : intBin .geq .i64 x y = some (.lit (.bool (decide (x ≥ y)))) := (Eq.refl _).trans rfl
theorem eqlI (x y : Int) : intBin .eql .i64 x y = some (.lit (.bool (x == y))) := (Eq.refl _).trans rfl
theorem neqI (x y : Int) : intBin .neq .i64 x y = some (.lit (.bool (x != y))) := (Eq.refl _).trans rfl
theorem addI (x y : Int) : intBin .add .i64 x y = some (.lit (.int .i64 (add64 x y))) := (Eq.refl _).trans rfl
theorem subI (x y : Int) : intBin .sub .i64 x y = some (.lit (.int .i64 (sub64 x y))) := (Eq.refl _).trans rfl
theorem incI {i : Nat} (h : i < 9223372036854775807) : add64 (i : Int) 1 = ((i + 1 : Nat) : Int) := by
  unfold add64
  rw [IntWalk.i64_in _ (by omega)]; rfl
theorem boolB (b : Bool) : boolOf (.lit (.bool b)) = some b := (Eq.refl _).trans rfl
theorem notB (b : Bool) : unAV .not (.lit (.bool b)) = some (.lit (.bool (!b))) := (Eq.refl _).trans rfl
theorem aggS (l : List AV) : aggOf (.agg l) = some l := (Eq.refl _).trans rfl
theorem tupS (l : List AV) : tupOf (.tup l) = some l := (Eq.refl _).trans rfl
theorem ltT {i n : Nat} (h : i < n) : decide ((i : Int) < (n : Int)) = true := by simpa using h
theorem ltF {i n : Nat} (h : ¬ i < n) : decide ((i : Int) < (n : Int)) = false := by simpa using h

/- the heap -/
theorem hpart_app (agg : Bool) (n off i : Nat) (h hs : Heap) : hpart agg n off (h.length + i) (h ++ hs) = hpart agg n off i hs := by
  unfold hpart
  rw [List.getElem?_append_right (by omega), Nat.add_sub_cancel_left]
theorem hpart_app0 (agg : Bool) (n off : Nat) (h hs : Heap) : hpart agg n off h.length (h ++ hs) = hpart agg n off 0 hs := hpart_app agg n off 0 h hs
theorem hstore_app (h hs : Heap) (i off : Nat) (l : List Cell) : hstore (h ++ hs) (h.length + i) off l = (hstore hs i off l).map (h ++ ·) := by
  unfold hstore
  rw [List.getElem?_append_right (by omega), Nat.add_sub_cancel_left]
  cases hs[i]? with
  | none => rfl
  | some cs =>
    simp only [Option.bind_some]
    cases splice cs off l with
    | none => rfl
    | some cs' => simp
theorem hstore_app0 (h hs : Heap) (off : Nat) (l : List Cell) : hstore (h ++ hs) h.length off l = (hstore hs 0 off l).map (h ++ ·) := hstore_app h hs 0 off l
mutual
theorem Ty.cells_lt (m : Nat) : ∀ t : Ty, ∀ a ∈ t.cells, AV.lt m a
  | ⟨k, n, s, ls, xs⟩ => by
    intro a ha
    rw [Ty.cells] at ha
    simp only [List.mem_cons, List.not_mem_nil, or_false] at ha
    rcases ha with e | e | e | e | e
    · rw [e]; exact .lit _
    · rw [e]; exact .lit _
    · rw [e]; exact .lit _
    · rw [e]; refine .sl _ fun x hx b hb => ?_
      obtain ⟨s, _, rfl⟩ := List.mem_map.1 hx
      rcases List.mem_cons.1 hb with e | e
      · rw [e]; exact .lit _
      · cases e
    · rw [e]; exact .sl _ (Ty.cellsL_lt m xs)
theorem Ty.cellsL_lt (m : Nat) : ∀ l : List Ty, ∀ x ∈ Ty.cellsL l, ∀ a ∈ x, AV.lt m a
  | [] => by intro x hx; rw [Ty.cellsL] at hx; cases hx
  | t :: r => by
    intro x hx
    rw [Ty.cellsL] at hx
    rcases List.mem_cons.1 hx with e | e
    · rw [e]; exact Ty.cells_lt m t
    · exact Ty.cellsL_lt m r x e
end
end Go.Sh.T
