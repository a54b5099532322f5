/- ShC: part of the proof: a shadow of the machine that is proved sound, and what the functions of this seat compute. Conditions: none. -/
import Derived.Test.YtbnilhjddpmodaaGreatDoorShB
import Derived.RangeFuncRecord
import Derived.Lib.OthersKept
import Derived.IntWalk
import Derived.Lib.SlicesCompact
import Derived.Sort.EncStr
import Derived.Shelf.Slices.In.SortAlone
import Derived.Shelf.Slices.In.SortNone
import Derived.Shelf.Slices.In.CompactS
import Derived.Sort.OwnSorted
import Derived.Sort.EveryDepth
import Derived.Maps.OwnOps
import Derived.Maps.Views
import Derived.StringKeys
set_option linter.unusedSimpArgs false
/- Range over a function: the record of the loop, and the rounds. -/
namespace Go.Sh
open Go
set_option linter.unusedVariables false
set_option linter.unusedSimpArgs false

/-- Rounds, one behind the other; a jump ends them. -/
def foldR (rd : AV → Heap → Option (Option Code × Heap)) : List AV → Heap → Option (Option Code × Heap)
  | [], h => some (none, h)
  | x :: xs, h => (rd x h).bind fun p => match p.1 with
    | none => foldR rd xs p.2
    | some c => some (some c, p.2)

theorem foldR_cons {rd : AV → Heap → Option (Option Code × Heap)} {x : AV} {xs : List AV} {h : Heap} {r : Option Code × Heap} (hx : foldR rd (x :: xs) h = some r) :
    (∃ h1, rd x h = some (none, h1) ∧ foldR rd xs h1 = some r) ∨ (∃ c, rd x h = some r ∧ r.1 = some c) := by
  unfold foldR at hx
  rw [Option.bind_eq_some_iff] at hx
  obtain ⟨⟨j, h1⟩, h2, hx⟩ := hx
  cases j with
  | none => exact .inl ⟨h1, h2, hx⟩
  | some c => have hx := Option.some.inj hx; exact .inr ⟨c, by rw [h2, ← hx], by rw [← hx]⟩

theorem foldR_append {rd : AV → Heap → Option (Option Code × Heap)} : ∀ {xs ys : List AV} {h : Heap} {r : Option Code × Heap}, foldR rd (xs ++ ys) h = some r →
    (∃ h1, foldR rd xs h = some (none, h1) ∧ foldR rd ys h1 = some r) ∨ (∃ c, foldR rd xs h = some r ∧ r.1 = some c)
  | [], ys, h, r, hx => .inl ⟨h, rfl, hx⟩
  | x :: xs, ys, h, r, hx => by
    rcases foldR_cons hx with ⟨h1, k1, k2⟩ | ⟨c, k1, k2⟩
    · rcases foldR_append k2 with ⟨h2, k3, k4⟩ | ⟨c, k3, k4⟩
      · exact .inl ⟨h2, by unfold foldR; rw [k1]; exact k3, k4⟩
      · exact .inr ⟨c, by unfold foldR; rw [k1]; exact k3, k4⟩
    · obtain ⟨j, h1⟩ := r; have k2 : j = some c := k2; subst k2; exact .inr ⟨c, by unfold foldR; rw [k1]; rfl, rfl⟩

theorem quiet_le {d d1 : Nat} (hd : d ≤ d1) {o : Owner} (h : quiet d o = true) : quiet d1 o = true := by
  induction hd with
  | refl => exact h
  | step _ ih => exact quiet_succ ih

structure Ready (G : Gh) (w : World) (l : Nat) (rc : Loop) : Prop where
  there : w.heap[l]? = some (.loop rc)
  state : rc.state = .ready
  pend : rc.pending = none
  own : G.O l = .none

/-- The record behind the rounds. -/
def endRec (rc : Loop) (j : Option Code) : Loop := { rc with state := if j.isNone then .ready else .done, pending := j }
def endW (w : World) (l : Nat) (rc : Loop) (j : Option Code) : World := w.putObj l (.loop (endRec rc j))

section
variable {G G1 G2 : Gh} {w w1 w2 : World} {l d : Nat} {rc rc' : Loop}

theorem Ready.lt (h : Ready G w l rc) : l < w.heap.size := lt_of_heap h.there
theorem Ready.later (h : Ready G w l rc) (f : Fr d G w G1 w1) : Ready G1 w1 l rc := by
  obtain ⟨a1, a2, a3⟩ := f.same l h.lt (by rw [h.own]; rfl)
  exact ⟨a1.trans h.there, h.state, h.pend, a3.trans h.own⟩

theorem putObj_self {o : Obj} (h : w.heap[l]? = some o) : w.putObj l o = w := by
  unfold World.putObj
  have : w.heap.setIfInBounds l o = w.heap := by
    refine Array.ext_getElem? fun i => ?_
    by_cases e : l = i
    · subst e; rw [h]; simp [lt_of_heap h]
    · rw [Array.getElem?_setIfInBounds_ne e]
  rw [this]

theorem endW_none (h : Ready G w l rc) : endW w l rc none = w := by
  unfold endW
  have : endRec rc none = rc := by
    obtain ⟨_, h2, h3, _⟩ := h
    cases rc; simp only at h2 h3; subst h2; subst h3; rfl
  rw [this]; exact putObj_self h.there

theorem put_other {o : Obj} {b : Nat} (h : b ≠ l) : (w.putObj l o).heap[b]? = w.heap[b]? := World.putObj_heap_other h
theorem put_same {o : Obj} (h : l < w.heap.size) : (w.putObj l o).heap[l]? = some o := World.putObj_heap_same h
theorem put_put {o o' : Obj} : (w.putObj l o).putObj l o' = w.putObj l o' := by
  unfold World.putObj
  have : (w.heap.setIfInBounds l o).setIfInBounds l o' = w.heap.setIfInBounds l o' := by
    refine Array.ext_getElem? fun i => ?_
    by_cases e : l = i
    · subst e
      by_cases hl : l < w.heap.size
      · simp [hl]
      · simp [hl]
    · rw [Array.getElem?_setIfInBounds_ne e, Array.getElem?_setIfInBounds_ne e, Array.getElem?_setIfInBounds_ne e]
  simp only [this]

theorem row_put {r : Loop} {o : Loop} (h : w.heap[l]? = some (.loop r)) (b s m : Nat) : row? (w.putObj l (.loop o)) b s m = row? w b s m := by
  by_cases e : b = l
  · subst e; unfold row?; rw [put_same (lt_of_heap h), h]
  · exact row_of_same (put_other e) s m

theorem ext_put {S : Nat → Nat} {μ : List Nat} {r o : Loop} (h : w.heap[l]? = some (.loop r)) : Ext S w μ S (w.putObj l (.loop o)) μ :=
  ⟨fun _ => Nat.le_refl _, fun b s m vals _ hr => by rw [row_put h]; exact hr, fun _ _ h => h, fun b => szB_le fun arr T fz e => by
    have hb : b ≠ l := fun e' => by rw [e', h] at e; cases e
    exact ⟨arr, T, fz, (put_other hb).trans e, Nat.le_refl _⟩⟩

theorem same_put {o : Obj} {b : Nat} (h : b ≠ l) : SameB G w G (w.putObj l o) b := ⟨put_other h, rfl, rfl⟩

theorem slot_put {r o : Loop} (h : w.heap[l]? = some (.loop r)) (ho : G.O l = .none) {i : Nat} {s : Slot} {v : Value} (x : RepSlot G w d i s v) : RepSlot G (w.putObj l (.loop o)) d i s v :=
  x.mono' (ext_put h) (fun b _ hb => same_put (fun e => by rw [e, ho] at hb; cases hb)) (fun c b _ hb => same_put (fun e => by rw [e, ho] at hb; cases hb))
theorem heap_put {r o : Loop} (h : w.heap[l]? = some (.loop r)) (ho : G.O l = .none) {hp : Heap} (x : RepHeap G w hp) : RepHeap G (w.putObj l (.loop o)) hp :=
  x.mono' (ext_put h) rfl (fun i b _ hb => same_put (fun e => by rw [e, ho] at hb; cases hb)) (fun i c b _ hb => same_put (fun e => by rw [e, ho] at hb; cases hb))
theorem within_put {r o : Loop} (h : w.heap[l]? = some (.loop r)) (x : Within G w) : Within G (w.putObj l (.loop o)) := fun b hb => by
  obtain ⟨arr, T, fz, h1, h2⟩ := x b hb
  have : b ≠ l := fun e => by rw [e, h] at h1; cases h1
  exact ⟨arr, T, fz, (put_other this).trans h1, h2⟩
theorem st_put {r o : Loop} (h : w.heap[l]? = some (.loop r)) (ho : G.O l = .none) {st : St} {tmps : Array Value} (x : RepSt d G w st tmps) : RepSt d G (w.putObj l (.loop o)) st tmps :=
  ⟨fun i => slot_put h ho (x.slot i), x.path, heap_put h ho x.heap, within_put h x.within⟩

theorem Fr.put {r o : Loop} (f : Fr d G w G1 w1) (h : w.heap[l]? = some (.loop r)) (ho : G.O l = .none) : Fr d G (w.putObj l (.loop o)) G1 (w1.putObj l (.loop o)) := by
  obtain ⟨a1, a2, a3⟩ := f.same l (lt_of_heap h) (by rw [ho]; rfl)
  have h1 : w1.heap[l]? = some (.loop r) := a1.trans h
  refine ⟨f.os, f.tape, f.output, by simpa using f.size, ⟨f.ext.le, fun b s m vals hs hr => ?_, f.ext.mu, fun b => by
    by_cases e : b = l
    · subst e; unfold szB; rw [put_same (lt_of_heap h)]; exact Nat.zero_le _
    · have := f.ext.sz b; unfold szB at this ⊢; rw [put_other e, put_other e]; exact this⟩, fun b hb hq => ?_⟩
  · rw [row_put h] at hr; rw [row_put h1]; exact f.ext.row b s m vals hs hr
  · have hb : b < w.heap.size := by simpa using hb
    by_cases e : b = l
    · subst e; exact ⟨(put_same (lt_of_heap h1)).trans (put_same (lt_of_heap h)).symm, a2, a3⟩
    · obtain ⟨b1, b2, b3⟩ := f.same b hb hq
      exact ⟨by rw [put_other e, put_other e]; exact b1, b2, b3⟩

theorem Fr.putNew {r o : Loop} (f : Fr d G w G1 w1) (hl : w.heap.size ≤ l) (h1 : w1.heap[l]? = some (.loop r)) : Fr d G w G1 (w1.putObj l (.loop o)) := by
  refine ⟨f.os, f.tape, f.output, by simpa using f.size, ⟨f.ext.le, fun b s m vals hs hr => ?_, f.ext.mu, fun b => Nat.le_trans (f.ext.sz b) ((ext_put (S := G1.S) (μ := G1.μ) h1).sz b)⟩, fun b hb hq => ?_⟩
  · rw [row_put h1]; exact f.ext.row b s m vals hs hr
  · obtain ⟨b1, b2, b3⟩ := f.same b hb hq
    exact ⟨by rw [put_other (by omega)]; exact b1, b2, b3⟩

/-- What a round is: its shadow. -/
def RoundC (P : Program) (l : Nat) (d : Nat) (G0 : Gh) (w0 : World) (rc : Loop) (rd : AV → Heap → Option (Option Code × Heap)) : Prop :=
  ∀ (nn d' : Nat) (G1 : Gh) (w1 : World) (x : AV) (xv : Value) (h1 : Heap) (j : Option Code) (h2 : Heap), d ≤ d' → Fr d G0 w0 G1 w1 → RepA G1.S w1 G1.μ x xv → RepHeap G1 w1 h1 → Within G1 w1 → rd x h1 = some (j, h2) →
    ∃ fn tmps assign body, (Instr.yield l #[xv]).run P w1 = .ok (.round l fn tmps assign body) w1 ∧ RoundIn (FF none) nn P l fn tmps assign body w1
      (fun e w2 => e = .returned (.bool j.isNone) ∧ ∃ G2, Fr d' G1 (endW w1 l rc j) G2 w2 ∧ RepHeap G2 w2 h2 ∧ Within G2 w2)

theorem RoundC.later {P : Program} {rd : AV → Heap → Option (Option Code × Heap)} (h : RoundC P l d G w rc rd) {d1 : Nat} (hd : d ≤ d1) (f : Fr d G w G1 w1) : RoundC P l d1 G1 w1 rc rd := fun nn d' G2 w2 x xv h1 j h2 hd' f2 => by
  refine h nn d' G2 w2 x xv h1 j h2 (Nat.le_trans hd hd') (f.trans ?_)
  exact ⟨f2.os, f2.tape, f2.output, f2.size, f2.ext, fun b hb hq => f2.same b hb (quiet_le hd hq)⟩
end

/-- What an iterator's call ends in. -/
def PostY (d : Nat) (G : Gh) (w : World) (l : Nat) (rc : Loop) (j : Option Code) (h' : Heap) (e : Ending) (w' : World) : Prop :=
  e = .returned (.bool j.isNone) ∧ ∃ G', Fr d G (endW w l rc j) G' w' ∧ RepHeap G' w' h' ∧ Within G' w'
end Go.Sh

/- Range over a function: steps by hand, and the statement. -/
namespace Go.Sh
open Go
set_option linter.unusedVariables false
set_option linter.unusedSimpArgs false

/-- These slots are told on, and the heap. -/
def kL (L : List Nat) : Ex → St → Option (List (Nat × Slot) × Heap)
  | .normal, st => some (L.map (fun t => (t, (st.s t).norm)), st.h)
  | _, _ => none
def kLs (L : List Nat) : St → Option (List (Nat × Slot) × Heap) := fun st => some (L.map (fun t => (t, (st.s t).norm)), st.h)
def kN {ρ : Type} : AV → Heap → Option ρ := fun _ _ => none

section
variable {E : Env} {H : FHint} {d : Nat} {G : Gh} {w : World} {st : St} {a : Act} {o : Oper} {ops : Array Oper} {nt nn : Nat} {ro : Option Nat} {D : List Deferred} {call : Nat → List AV → Heap → R}

theorem AtSt.keep {G0 : Gh} {w0 : World} (l : Option (List Nat)) (h : AtSt d nt G0 w0 st a w) : AtSt d nt G0 w0 (st.keep l) a w := by
  obtain ⟨G, r, h1, h2⟩ := h
  exact ⟨G, r.keep l, h1, h2⟩

/-- A piece of code, by its shadow; these slots are told on. -/
theorem seg_keep (ok : E.Ok) (hs : SoundC E.P call) {n bi : Nat} {G0 : Gh} {w0 : World} {c : Code} {Q : Exit → Act → World → Prop} (L : List Nat) {l : List (Nat × Slot)} {h' : Heap} (h : evC E H nt call n c bi st (kL L) kN = some (l, h')) (hat : AtSt d nt G0 w0 st a w) (hd : a.defers = D)
    (hQ : ∀ a' w', AtSt d nt G0 w0 { s := lkS l, h := h' } a' w' → a'.defers = D → Q .normal a' w') : c.wpIn (FF ro) nn E.P Q a w := by
  rw [evC_bind] at h
  cases hc : evC E H nt call n c bi st kE kP with
  | none => rw [hc] at h; cases h
  | some r =>
    rw [hc] at h
    cases r with
    | inr p => cases h
    | inl p =>
      obtain ⟨e, st'⟩ := p
      cases e with
      | exit i => cases h
      | ret => cases h
      | normal =>
        have h := Option.some.inj h
        have e1 := (Prod.mk.inj h).1; have e2 := (Prod.mk.inj h).2
        subst e1; subst e2
        refine Code.wpIn_mono (fun e a' w' hq => ?_) (evC_ok (ro := ro) (nn := nn) ok hs c bi st kE a w hc hat hd)
        obtain ⟨hd', hq⟩ := hq
        cases e with
        | normal =>
          obtain ⟨st1, G1, h1, h2, h3, h4⟩ := hq
          have e := (Prod.mk.inj (Sum.inl.inj (Option.some.inj h1))).2
          subst e
          exact hQ a' w' (AtSt.keep (some L) ⟨G1, h2, h3, h4⟩) hd'
        | exit i => obtain ⟨st1, G1, h1, _⟩ := hq; exact absurd (Prod.mk.inj (Sum.inl.inj (Option.some.inj h1))).1 (by intro h; cases h)
        | ret => obtain ⟨st1, G1, h1, _⟩ := hq; exact absurd (Prod.mk.inj (Sum.inl.inj (Option.some.inj h1))).1 (by intro h; cases h)
        | panic ch => obtain ⟨x, v, G1, h', _, h1, _⟩ := hq; cases (Option.some.inj h1)
        | goto l => exact hq.elim
        | outgrown => exact hq.elim

theorem step_keep (ok : E.Ok) (hs : SoundC E.P call) {G0 : Gh} {w0 : World} {i : Nat} (hi : ops[i]? = some o) (L : List Nat) {l : List (Nat × Slot)} {h' : Heap} (h : stepK E H nt call ops i o st (kLs L) kN = some (l, h')) (hat : AtSt d nt G0 w0 st a w) (hd : a.defers = D)
    {K : Act → World → Prop} {Q : Exit → Act → World → Prop} (hK : ∀ a' w', AtSt d nt G0 w0 { s := lkS l, h := h' } a' w' → a'.defers = D → K a' w') : wpOpIn (FF ro) nn E.P ops Q i K a w := by
  rw [step_bind] at h
  cases hc : stepD E H nt call ops i o st with
  | none => rw [hc] at h; cases h
  | some r =>
    rw [hc] at h
    cases r with
    | inr p => cases h
    | inl st' =>
      have h := Option.some.inj h
      have e1 := (Prod.mk.inj h).1; have e2 := (Prod.mk.inj h).2
      subst e1; subst e2
      obtain ⟨G1, r, hnt, hf⟩ := hat
      refine (step_ok (ro := ro) (nn := nn) ok hs hi hnt r hc).1 st' rfl K Q fun a' G' w' r' hnt' hd' hf' => ?_
      exact hK a' w' (AtSt.keep (some L) ⟨G', r', hnt', hf.trans hf'⟩) (hd'.trans hd)

/-- A call that goes round the rounds. -/
theorem step_hand {P : Program} {i t l : Nat} {rc : Loop} {j : Option Code} {h' : Heap} (hi : ops[i]? = some o) (hg : o.guard = none) (hdt : o.dst = some t) (hnd : ∀ c, o.op ≠ .defer c) (ht : t < nt) (hpb : st.pb t = false)
    (r : RepSt d G w st a.tmps) (hnt : a.tmps.size = nt) (rdy : Ready G w l rc)
    (hrun : (∃ f args, (execOp a.eval o).run P w = .ok (.enter f args) w ∧ Calls P f args w (PostY (d + 1) G w l rc j h')) ∨
      (∃ l2 fn tmps assign body, (execOp a.eval o).run P w = .ok (.round l2 fn tmps assign body) w ∧ RoundIn (FF none) (nn - 1) P l2 fn tmps assign body w (PostY (d + 1) G w l rc j h')))
    {K : Act → World → Prop} {Q : Exit → Act → World → Prop}
    (hK : ∀ a' G' w', RepSt d G' w' { s := upd st.s t (.c (.v (.lit (.bool j.isNone)))), h := h', pb := st.pb } a'.tmps → a'.tmps.size = nt → a'.defers = a.defers → Fr d G (endW w l rc j) G' w' → K a' w') :
    wpOpIn (FF none) nn P ops Q i K a w := by
  have fin : ∀ e w', PostY (d + 1) G w l rc j h' e w' → ∃ v, e = .returned v ∧ K (a.put o.dst v) w' := by
    rintro e w' ⟨rfl, G', hf, hh, hw⟩
    refine ⟨_, rfl, hK _ G' w' ?_ (by rw [put_tmps, putT_size, hnt]) (put_defers _ _ _) hf.inner⟩
    have r1 := st_put (o := endRec rc j) rdy.there rdy.own r
    have := after_call (o := o) (v := .bool j.isNone) (s := .c (.v (.lit (.bool j.isNone)))) r1 (fun t' e => by rw [hdt] at e; cases e; rw [hnt]; exact ht) (by rw [hdt]; simp [freeDst, hpb]) hf.same hf.ext hh hw (fun _ _ => .lit rfl) (fun _ _ e => by cases e)
    rw [put_tmps]
    rw [hdt] at this ⊢
    exact this
  unfold wpOpIn
  rw [hi]
  simp only [Region.wanted, hg, if_true]
  refine ⟨fun _ _ => trivial, ?_⟩
  rw [Oper.semAt_eq _ _ _ hnd]
  rcases hrun with ⟨f, args, hrun, hc⟩ | ⟨l2, fn, tmps, assign, body, hrun, hc⟩
  · rw [hrun, Oper.uponIn_enter]
    refine ⟨fun e => (by cases e), CallsIn.mono (calls_in none hc) fun e w' he => ?_⟩
    obtain ⟨v, rfl, hv⟩ := fin e w' he
    exact hv
  · rw [hrun, Oper.uponIn_round]
    refine ⟨fun e => (by cases e), hc.mono fun e w' he => ?_⟩
    obtain ⟨v, rfl, hv⟩ := fin e w' he
    exact hv

theorem run_yieldOp (P : Program) {c : Call} {x : Operand} (ho : o.op = .call c) (hb : c.callee = .value x) {l : Nat} (hx : a.eval x = .func (.yield l) #[] #[]) {nx : Next}
    (hy : (Instr.yield l (c.args.map a.eval)).run P w = .ok nx w) : (execOp a.eval o).run P w = .ok nx w := by
  unfold execOp
  rw [ho]
  simp only [resolve, hb, Sem.run_bind, Sem.run_pure, Result.andThen_ok, hx, Deferred.ofValue, invoke]
  simpa using hy

/-- One round's shadow: the assignments, the body. -/
noncomputable def roundE (E : Env) (H : FHint) (nt : Nat) (call : Nat → List AV → Heap → R) (n : Nat) (s0 : Nat → Slot) (p : Nat) (assign body : Code) (x : AV) (h : Heap) : Option (Option Code × Heap) :=
  evC E H nt call n assign 0 { s := upd s0 p (.c (.v x)), h := h } (fun e st' => match e with
    | .normal => evC E H nt call n body 0 st' (fun e st'' => match e with
      | .normal => some (none, st''.h)
      | .ret => some (some .ret, st''.h)
      | .exit i => some (some (.exit i), st''.h)) (fun _ _ => none)
    | _ => none) (fun _ _ => none)

def freeS : Slot → Bool
  | .c (.v _) => true
  | _ => false

theorem RepSlot.free {i d' : Nat} {s : Slot} {v : Value} (hf : freeS s = true) (h : RepSlot G w d i s v) : RepSlot G w d' i s v := by
  cases s with
  | c x => cases x with
    | v a => exact h
    | nil n => cases hf
    | own n es => cases hf
  | _ => cases hf

theorem lkS_free {l : List (Nat × Slot)} (hl : (l.all fun p => freeS p.2) = true) (i : Nat) : lkS l i = .dead ∨ freeS (lkS l i) = true := by
  rcases lkS_spec l i with e | e
  · exact .inl e
  · exact .inr (List.all_eq_true.1 hl _ e)

/-- A ROUND, BY ITS SHADOW. -/
theorem round_ok (ok : E.Ok) (hs : SoundC E.P call) {n : Nat} {l : Nat} {rc : Loop} {L : List (Nat × Slot)} (hL : (L.all fun p => freeS p.2) = true) {p : Nat} (hp : p < nt) (hps : rc.params = #[p]) (hnt : rc.tmps.size = nt) (rdy : Ready G w l rc)
    (hslot : ∀ i, RepSlot G w d i (lkS L i) (rc.tmps.getD i undef)) : RoundC E.P l d G w rc (roundE E H nt call n (lkS L) p rc.assign rc.body) := by
  intro nn d' G1 w1 x xv h1 j h2 hd hf hx hh hw hrd
  have rdy1 := rdy.later hf
  refine ⟨_, _, _, _, run_yield rdy1.there (by rw [hps]; rfl), ?_⟩
  refine roundIn_of_wpIn (F := FF none) trivial ?_
  unfold roundE at hrd
  have htm : (rc.params.zip #[xv]).foldl (fun tmps (t, a) => tmps.setIfInBounds t a) rc.tmps = rc.tmps.setIfInBounds p xv := by rw [hps]; simp
  have hat : AtSt d' nt G1 w1 { s := upd (lkS L) p (.c (.v x)), h := h1 } { tmps := rc.tmps.setIfInBounds p xv, defers := [] } w1 := by
    refine ⟨G1, ⟨fun i => ?_, fun u t off hu => ?_, hh, hw⟩, by simp [hnt], Fr.refl _ _ _⟩
    · show RepSlot G1 w1 d' i (upd (lkS L) p (.c (.v x)) i) ((rc.tmps.setIfInBounds p xv).getD i undef)
      rw [getD_put _ _ _ _ (by rw [hnt]; exact hp)]
      unfold upd
      by_cases e : i = p
      · subst e; simp; exact hx
      · rw [if_neg e, beqF (fun h => e h.symm)]
        rcases lkS_free hL i with e1 | e1
        · show RepSlot _ _ _ _ (lkS L i) _
          rw [e1]; trivial
        · have h0 := RepSlot.free (d' := d') e1 (hslot i)
          show RepSlot _ _ _ _ (lkS L i) _
          revert h0 e1
          cases lkS L i with
          | c y => cases y with
            | v z => intro _ h0; exact RepA.mono hf.ext h0
            | nil m => intro e1; cases e1
            | own m es => intro e1; cases e1
          | _ => intro e1; cases e1
    · exfalso
      have hu : upd (lkS L) p (.c (.v x)) u = .path t off := hu
      unfold upd at hu
      cases e : Nat.beq p u with
      | true => rw [e] at hu; cases hu
      | false =>
        rw [e] at hu
        have hu : lkS L u = .path t off := hu
        rcases lkS_free hL u with e1 | e1
        · rw [e1] at hu; cases hu
        · rw [hu] at e1; cases e1
  rw [htm]
  refine Code.wpIn_mono (fun e a' wx hq => ?_) (evC_ok (ro := some l) (nn := nn) (D := []) ok hs rc.assign 0 _ _ _ _ hrd hat rfl)
  obtain ⟨hd', hq⟩ := hq
  cases e with
  | normal =>
    obtain ⟨st', Gx, k1, k2, k3, k4⟩ := hq
    have rdyx := rdy1.later k4
    refine ⟨_, run_beginRound rdyx.there rdyx.state, ?_⟩
    have r2 := st_put (o := { rc with state := .busy }) rdyx.there rdyx.own k2
    have f2 := k4.put (o := { rc with state := .busy }) rdy1.there rdy1.own
    have hbusy : (w1.putObj l (.loop { rc with state := .busy })).heap[l]? = some (.loop { rc with state := .busy }) := put_same rdy1.lt
    refine Code.wpIn_mono (fun e a2 wy hq2 => ?_) (evC_ok (ro := some l) (nn := nn) (D := []) ok hs rc.body 0 _ _ _ _ k1 ⟨Gx, r2, k3, f2⟩ hd')
    obtain ⟨hd2, hq2⟩ := hq2
    have fin : ∀ (jump : Option Code) (Gy : Gh) (st'' : St), RepSt d' Gy wy st'' a2.tmps → Fr d' G1 (w1.putObj l (.loop { rc with state := .busy })) Gy wy → (jump, st''.h) = (j, h2) →
        ∃ v w', (Instr.endRound l jump).run E.P wy = .ok v w' ∧ (Ending.returned v = .returned (.bool j.isNone) ∧ ∃ G2, Fr d' G1 (endW w1 l rc j) G2 w' ∧ RepHeap G2 w' h2 ∧ Within G2 w') := by
      intro jump Gy st'' hr hfy e
      obtain ⟨e1, e2⟩ := Prod.mk.inj e
      subst e1
      have hsy := hfy.same l (by simpa using rdy1.lt) (by rw [rdy1.own]; rfl)
      have hthere : wy.heap[l]? = some (.loop { rc with state := .busy }) := hsy.1.trans hbusy
      have hown : Gy.O l = .none := hsy.2.2.trans rdy1.own
      refine ⟨_, _, run_endRound jump hthere, rfl, Gy, ?_, ?_, ?_⟩
      · have := hfy.put (o := endRec rc jump) hbusy rdy1.own
        rw [put_put] at this
        exact this
      · rw [← e2]; exact heap_put hthere hown hr.heap
      · exact within_put hthere hr.within
    cases e with
    | normal => obtain ⟨st'', Gy, m1, m2, m3, m4⟩ := hq2; exact fin none Gy st'' m2 m4 (Option.some.inj m1)
    | ret => obtain ⟨st'', Gy, m1, m2, m3, m4⟩ := hq2; exact fin (some .ret) Gy st'' m2 m4 (Option.some.inj m1)
    | exit i => obtain ⟨st'', Gy, m1, m2, m3, m4⟩ := hq2; exact fin (some (.exit i)) Gy st'' m2 m4 (Option.some.inj m1)
    | panic ch => obtain ⟨x, v, Gy, h', _, m1, _⟩ := hq2; cases m1
    | goto l => exact hq2.elim
    | outgrown => exact hq2.elim
  | exit i => obtain ⟨st', Gx, k1, _⟩ := hq; cases k1
  | ret => obtain ⟨st', Gx, k1, _⟩ := hq; cases k1
  | panic ch => obtain ⟨x, v, Gy, h', _, m1, _⟩ := hq; cases m1
  | goto l => exact hq.elim
  | outgrown => exact hq.elim

/-- What an iterator promises: it goes through these. -/
def IterC (P : Program) (g : Nat) (caps : List AV) (xs : List AV) (h : Heap) : Prop :=
  Callable P g ∧ ∀ (d : Nat) (G : Gh) (w : World) (l : Nat) (rc : Loop) (rd : AV → Heap → Option (Option Code × Heap)) (cv : Array Value) (j : Option Code) (h' : Heap), Ready G w l rc → RoundC P l d G w rc rd → RepL G.S w G.μ caps cv.toList → RepHeap G w h → Within G w → foldR rd xs h = some (j, h') →
    Calls P g (#[.func (.yield l) #[] #[]] ++ cv) w fun e w' => (∃ v, e = .returned v) ∧ ∃ G', Fr d G (endW w l rc j) G' w' ∧ RepHeap G' w' h' ∧ Within G' w'

/-- THE STATEMENT. -/
theorem range_ok (ok : E.Ok) (hs : SoundC E.P call) {n : Nat} {g p : Nat} {assign body : Code} {L : List (Nat × Slot)} (hL : (L.all fun p => freeS p.2) = true) (hp : p < nt) {G0 : Gh} {w0 : World} {gf : Nat} {caps xs : List AV} (hg : st.s g = .c (.v (.fn gf [] caps))) (hsl : ∀ i, lkS L i = .dead ∨ lkS L i = st.s i)
    (it : IterC E.P gf caps xs st.h) {j : Option Code} {h' : Heap} (hfold : foldR (roundE E H nt call n (lkS L) p assign body) xs st.h = some (j, h')) (hat : AtSt d nt G0 w0 st a w) (hpb : ∀ i t off, st.s i ≠ .path t off) {Q : Exit → Act → World → Prop}
    (hQ : ∀ D G' w', w0.heap.size ≤ D → G'.O D = .none → w'.heap[D]? = some (.deferred (some [])) → RepSt d G' w' { s := st.s, h := h' } a.tmps → a.tmps.size = nt → Fr d G0 w0 G' w' →
      match (motive := Option Code → Prop) j with
      | none => Q .normal { a with defers := { target := .collected D, args := #[] } :: a.defers } w'
      | some c => c.wpIn (FF none) nn E.P Q { a with defers := { target := .collected D, args := #[] } :: a.defers } w') :
    (Code.rangeFunc (.tmp g) #[p] assign body).wpIn (FF none) nn E.P Q a w := by
  refine wpIn_rangeFunc ?_
  intro fn _
  obtain ⟨G, r, hnt, hf⟩ := hat
  obtain ⟨hcal, it⟩ := it
  have hgv := r.slot g
  rw [hg] at hgv
  have hgv : RepA G.S w G.μ (.fn gf [] caps) (a.tmps.getD g undef) := hgv
  obtain ⟨fv, cv, hev, hfv, hcv⟩ : ∃ fv cv, a.tmps.getD g undef = .func (.func gf) fv cv ∧ RepL G.S w G.μ [] fv.toList ∧ RepL G.S w G.μ caps cv.toList := by
    generalize a.tmps.getD g undef = V at hgv
    cases hgv with
    | fn h h' => exact ⟨_, _, rfl, h, h'⟩
  have hfv0 : fv = #[] := by
    have := hfv.length
    simp at this
    exact Array.eq_empty_of_size_eq_zero this.symm
  subst hfv0
  obtain ⟨rc, hrc⟩ : ∃ rc : Loop, rc = { state := .ready, pending := none, fn, tmps := a.tmps, params := #[p], assign, body, defers := w.heap.size } := ⟨_, rfl⟩
  obtain ⟨fa, wa, sa⟩ := frame_alloc (d := d) r.within (.deferred (some [])) .none
  obtain ⟨fb, wb, sb⟩ := frame_alloc (d := d) wa (.loop rc) .none
  obtain ⟨G2, hG2⟩ : ∃ G2, G2 = setO (setO G w.heap.size .none) (w.alloc (.deferred (some []))).heap.size .none := ⟨_, rfl⟩
  obtain ⟨w2, hw2⟩ : ∃ w2, w2 = (w.alloc (.deferred (some []))).alloc (.loop rc) := ⟨_, rfl⟩
  rw [← hG2, ← hw2] at fb wb sb
  have f2 : Fr d G w G2 w2 := fa.trans fb
  have s2 : ∀ b, b < w.heap.size → SameB G w G2 w2 b := fun b hb => by
    obtain ⟨a1, a2, a3⟩ := sa b hb
    obtain ⟨b1, b2, b3⟩ := sb b (by rw [size_alloc]; omega)
    exact ⟨b1.trans a1, b2.trans a2, b3.trans a3⟩
  have r2 : RepSt d G2 w2 st a.tmps :=
    ⟨fun i => (r.slot i).mono' f2.ext (fun b hb _ => s2 b hb) (fun c b hb _ => s2 b hb), r.path, r.heap.mono' f2.ext (by rw [hG2]; rfl) (fun i b hb _ => s2 b hb) (fun i c b hb _ => s2 b hb), wb⟩
  have hl : w2.heap[w.heap.size + 1]? = some (.loop rc) := by
    rw [hw2]
    have := heap_alloc_new (w.alloc (.deferred (some []))) (.loop rc)
    rwa [size_alloc] at this
  have hD : w2.heap[w.heap.size]? = some (.deferred (some [])) := by rw [hw2]; exact heap_alloc_old _ _ (heap_alloc_new w _)
  have hOl : G2.O (w.heap.size + 1) = .none := by rw [hG2, ← size_alloc w (.deferred (some []))]; exact setO_self
  have hOD : G2.O w.heap.size = .none := by rw [hG2, setO_other (by rw [size_alloc]; omega)]; exact setO_self
  have rdy : Ready G2 w2 (w.heap.size + 1) rc := ⟨hl, by rw [hrc], by rw [hrc], hOl⟩
  have rnd : RoundC E.P (w.heap.size + 1) (d + 1) G2 w2 rc (roundE E H nt call n (lkS L) p assign body) := by
    have := round_ok (H := H) (n := n) (d := d + 1) (rc := rc) ok hs hL hp (by rw [hrc]) (by rw [hrc]; exact hnt) rdy (fun i => by
      rcases hsl i with e | e
      · rw [e]; trivial
      · rcases lkS_free hL i with e1 | e1
        · rw [e1]; trivial
        · refine RepSlot.free (d := d) e1 ?_
          rw [e, hrc]; exact r2.slot i)
    rw [hrc] at this ⊢
    exact this
  have call1 := it (d + 1) G2 w2 (w.heap.size + 1) rc _ cv j h' rdy rnd (hcv.mono f2.ext) r2.heap wb hfold
  refine ⟨w.heap.size + 1, [{ target := .collected w.heap.size, args := #[] }], w2, { target := .fn (.func gf) cv, args := #[.func (.yield (w.heap.size + 1)) #[] #[]] }, w2, gf, #[.func (.yield (w.heap.size + 1)) #[] #[]] ++ cv, w2, ?_, ?_, ?_, ?_, fun e => (by cases e), ?_⟩
  · rw [hw2, hrc]; exact run_enterLoop_outer _ _ _ _ _
  · have hx : a.eval (.tmp g) = .func (.func gf) #[] cv := hev
    simp only [resolve, hx, Sem.run_bind, Sem.run_pure, Result.andThen_ok, Deferred.ofValue]
    simp
    rfl
  · intro f' hf'; trivial
  · simp only [invoke]; exact run_callFunc hcal _
  · refine CallsIn.mono (calls_in none call1) ?_
    rintro e w3 ⟨⟨v, rfl⟩, G3, f3, h3, wi3⟩
    have rput := st_put (o := endRec rc j) rdy.there rdy.own r2
    have e1 := f3.same (w.heap.size + 1) (by simpa [endW] using rdy.lt) (by rw [hOl]; rfl)
    have hl3 : w3.heap[w.heap.size + 1]? = some (.loop (endRec rc j)) := e1.1.trans (put_same rdy.lt)
    have hO3 : G3.O (w.heap.size + 1) = .none := e1.2.2.trans hOl
    have e2 := f3.same w.heap.size (by simpa [endW] using lt_of_heap hD) (by rw [hOD]; rfl)
    have hD3 : w3.heap[w.heap.size]? = some (.deferred (some [])) := e2.1.trans ((put_other (by omega)).trans hD)
    have hj : (endRec rc j).pending = j := rfl
    refine ⟨j, w3.putObj (w.heap.size + 1) (.loop { endRec rc j with state := .exhausted }), ?_, ?_⟩
    · exact run_endLoop hl3 (by unfold endRec; cases j <;> simp)
    · have r3 : RepSt d G3 w3 { s := st.s, h := h' } a.tmps :=
        ⟨fun i => (rput.slot i).mono' f3.ext (fun b hb ho => f3.same b hb (by rw [ho]; simp [quiet, Nat.blt_eq])) (fun c b hb ho => f3.same b hb (by rw [ho]; simp [quiet, Nat.blt_eq])), fun u t off hu => absurd hu (hpb u t off), h3, wi3⟩
      have r4 := st_put (o := { endRec rc j with state := .exhausted }) hl3 hO3 r3
      have f4 : Fr d G w G3 (w3.putObj (w.heap.size + 1) (.loop { endRec rc j with state := .exhausted })) := by
        have k1 : Fr d G w G2 (endW w2 (w.heap.size + 1) rc j) := f2.putNew (by omega) hl
        exact (k1.trans f3.inner).putNew (by omega) hl3
      have := hQ w.heap.size G3 _ hf.size (e2.2.2.trans hOD) ((put_other (by omega)).trans hD3) r4 hnt (hf.trans f4)
      cases j with
      | none => exact this
      | some c => exact this
end
end Go.Sh

/- Range over a function: a function that holds one; an iterator's walk. -/
namespace Go.Sh
open Go
set_option linter.unusedVariables false
set_option linter.unusedSimpArgs false

section
variable {E : Env} {H : FHint} {d : Nat} {G : Gh} {w : World} {st : St} {a : Act} {o : Oper} {ops : Array Oper} {nt nn : Nat} {ro : Option Nat} {call : Nat → List AV → Heap → R}

theorem LeavesInM.of_mark {P : Program} {fn : Func} {tmps : Array Value} {R : Ending → World → Prop} {b : Nat} {v : Value} {w1 : World} (hb : w1.heap[b]? = some (.deferred (some []))) (hres : (results fn tmps).run P (w1.putObj b (.deferred none)) = .ok v (w1.putObj b (.deferred none)))
    (hR : R (.returned v) (w1.putObj b (.deferred none))) : LeavesInM (FF none) 0 P fn tmps R [{ target := .collected b, args := #[] }] .returning w1 := by
  refine ⟨by simp, .inl ⟨b, _, rfl, run_takeDeferred hb, ?_⟩⟩
  exact ⟨_, hres, hR⟩

theorem row_putD {b : Nat} (h : w.heap[b]? = some (.deferred (some []))) (c s m : Nat) : row? (w.putObj b (.deferred none)) c s m = row? w c s m := by
  by_cases e : c = b
  · subst e; unfold row?; rw [put_same (lt_of_heap h), h]
  · exact row_of_same (put_other e) s m
theorem ext_putD {S : Nat → Nat} {μ : List Nat} {b : Nat} (h : w.heap[b]? = some (.deferred (some []))) : Ext S w μ S (w.putObj b (.deferred none)) μ :=
  ⟨fun _ => Nat.le_refl _, fun c s m vals _ hr => by rw [row_putD h]; exact hr, fun _ _ h => h, fun c => szB_le fun arr T fz e => by
    have hb : c ≠ b := fun e' => by rw [e', h] at e; cases e
    exact ⟨arr, T, fz, (put_other hb).trans e, Nat.le_refl _⟩⟩
theorem st_putD {b : Nat} (h : w.heap[b]? = some (.deferred (some []))) (ho : G.O b = .none) {tmps : Array Value} (x : RepSt d G w st tmps) : RepSt d G (w.putObj b (.deferred none)) st tmps :=
  ⟨fun i => (x.slot i).mono' (ext_putD h) (fun c _ hb => same_put (fun e => by rw [e, ho] at hb; cases hb)) (fun _ c _ hb => same_put (fun e => by rw [e, ho] at hb; cases hb)), x.path,
   x.heap.mono' (ext_putD h) rfl (fun i c _ hb => same_put (fun e => by rw [e, ho] at hb; cases hb)) (fun i _ c _ hb => same_put (fun e => by rw [e, ho] at hb; cases hb)), fun c hc => by
    obtain ⟨arr, T, fz, h1, h2⟩ := x.within c hc
    have : c ≠ b := fun e => by rw [e, h] at h1; cases h1
    exact ⟨arr, T, fz, (put_other this).trans h1, h2⟩⟩
theorem Fr.putD {G0 : Gh} {w0 : World} {b : Nat} (f : Fr d G0 w0 G w) (hl : w0.heap.size ≤ b) (h1 : w.heap[b]? = some (.deferred (some []))) : Fr d G0 w0 G (w.putObj b (.deferred none)) := by
  refine ⟨f.os, f.tape, f.output, by simpa using f.size, ⟨f.ext.le, fun c s m vals hs hr => ?_, f.ext.mu, fun c => Nat.le_trans (f.ext.sz c) ((ext_putD (S := G.S) (μ := G.μ) h1).sz c)⟩, fun c hb hq => ?_⟩
  · rw [row_putD h1]; exact f.ext.row c s m vals hs hr
  · obtain ⟨b1, b2, b3⟩ := f.same c hb hq
    exact ⟨by rw [put_other (by omega)]; exact b1, b2, b3⟩

/-- What follows the rounds. -/
noncomputable def afterR (E : Env) (H : FHint) (fn : Func) (call : Nat → List AV → Heap → R) (n : Nat) (h : Heap) (rest : Code) (bi : Nat) (l : List (Nat × Slot)) : Option Code × Heap → R
  | (none, h1) => evC E H fn.ntmps call n rest 0 { s := lkS l, h := h1 } (fun e st' => match e with | .exit _ => none | _ => finish E H fn h st') (fun _ _ => none)
  | (some .ret, h1) => finish E H fn h { s := lkS l, h := h1 }
  | (some (.exit i), h1) => bif Nat.beq i bi then evC E H fn.ntmps call n rest 0 { s := lkS l, h := h1 } (fun e st' => match e with | .exit _ => none | _ => finish E H fn h st') (fun _ _ => none) else none
  | _ => none

/-- A FUNCTION THAT RANGES OVER A FUNCTION. -/
theorem range_fn (ok : E.Ok) (hs : SoundC E.P call) {f : Nat} {fn : Func} (hfn : E.P.funcs[f]? = some fn) (hname : (fn.name == "runtime.NumGoroutine") = false) {n bi g p : Nat} {A B assign body rest : Code} (hbody : fn.body = some (.seq A (.seq (.seq B (.block bi (.rangeFunc (.tmp g) #[p] assign body))) rest)))
    {args : List AV} {h : Heap} (hle : args.length ≤ fn.ntmps) (LA : List Nat) {lA : List (Nat × Slot)} {hA : Heap} (kA : evC E H fn.ntmps call n A 0 { s := lkS (argSlots 0 args), h := h } (kL LA) kN = some (lA, hA))
    (LB : List Nat) {lB : List (Nat × Slot)} {hB : Heap} (kB : evC E H fn.ntmps call n B 0 { s := lkS lA, h := hA } (kL LB) kN = some (lB, hB)) {L : List (Nat × Slot)} (hL : (L.all fun p => freeS p.2) = true) (hp : p < fn.ntmps) {gf : Nat} {caps xs : List AV} (hg : lkS lB g = .c (.v (.fn gf [] caps)))
    (hsl : ∀ i, lkS L i = .dead ∨ lkS L i = lkS lB i) (hnp : (lB.all fun q => match q.2 with | .path _ _ => false | _ => true) = true) (it : IterC E.P gf caps xs hB) {r : Option Code × Heap} (hfold : foldR (roundE E H fn.ntmps call n (lkS L) p assign body) xs hB = some r) {out : Out} {h' : Heap}
    (kC : afterR E H fn call n h rest bi lB r = some (out, h')) : Ends E.P f args h out h' := by
  refine ⟨⟨fn, hfn, hname, by rw [hbody]; rfl⟩, fun d G w argv hr hh hw => ?_⟩
  refine (callsIn_wide (n := 0)).1 ?_
  refine callsIn_of_wp_marks (F := FF none) hfn hbody trivial ?_
  have hal : argv.size = args.length := by simpa using hr.length.symm
  have hat : AtSt d fn.ntmps G w { s := lkS (argSlots 0 args), h := h } { tmps := argv ++ Array.replicate (fn.ntmps - argv.size) undef, defers := [] } w := by
    refine ⟨G, ⟨fun i => ?_, fun u t off hu => ?_, hh, hw⟩, by simp; omega, Fr.refl d G w⟩
    · rcases lkS_spec (argSlots 0 args) i with e | e
      · show RepSlot _ _ _ _ (lkS _ _) _
        rw [e]; trivial
      · refine argSlots_spec args 0 argv.toList hr (fun j x hj => ?_) _ e
        have hj' : j < argv.size := by simpa using (List.getElem?_eq_some_iff.1 hj).1
        rw [Nat.zero_add, Array.getD_eq_getD_getElem?, Array.getElem?_append_left hj', ← Array.getElem?_toList, hj]; rfl
    · exfalso
      have hu : lkS (argSlots 0 args) u = .path t off := hu
      have hno : ∀ (l : List AV) (k : Nat) (q : Nat × Slot), q ∈ argSlots k l → ∃ x, q.2 = .c (.v x) := by
        intro l
        induction l with
        | nil => intro k q hq; cases hq
        | cons x l ih =>
          intro k q hq
          rcases List.mem_cons.1 hq with e | e
          · exact ⟨x, by rw [e]⟩
          · exact ih _ q e
      rcases lkS_spec (argSlots 0 args) u with e | e
      · rw [e] at hu; cases hu
      · rw [hu] at e; obtain ⟨x, hx⟩ := hno _ _ _ e; cases hx
  refine wpIn_seq (seg_keep (H := H) ok hs LA kA hat rfl fun a1 w1 hat1 hd1 => ?_)
  refine wpIn_seq (wpIn_seq (seg_keep (H := H) ok hs LB kB hat1 hd1 fun a2 w2 hat2 hd2 => ?_))
  refine wpIn_block ?_
  have hnp' : ∀ i t off, lkS lB i ≠ .path t off := fun i t off e => by
    rcases lkS_spec lB i with e1 | e1
    · rw [e1] at e; cases e
    · rw [e] at e1
      have := List.all_eq_true.1 hnp _ e1
      cases this
  obtain ⟨j, h1⟩ := r
  have fin : ∀ (D : Nat) (G3 : Gh) (w3 : World) (st' : St) (a' : Act) (G' : Gh) (w' : World), G3.O D = .none → w3.heap[D]? = some (.deferred (some [])) → D ≥ w.heap.size → finish E H fn h st' = some (out, h') → RepSt d G' w' st' a'.tmps → Fr d G w G' w' → Fr d G3 w3 G' w' →
      a'.defers = [{ target := .collected D, args := #[] }] → LeavesInM (FF none) 0 E.P fn a'.tmps (EndOk d G w out h') a'.defers .returning w' := by
    intro D G3 w3 st' a' G' w' hO hD hge hfin hr' hf' hf3 hdef
    obtain ⟨s1, s2, s3⟩ := hf3.same D (lt_of_heap hD) (by rw [hO]; rfl)
    have hD' : w'.heap[D]? = some (.deferred (some [])) := s1.trans hD
    have r5 := st_putD hD' (s3.trans hO) hr'
    have f5 := hf'.putD hge hD'
    obtain ⟨v, k1, ⟨G2, k2, k3, k4, k5⟩, k6⟩ := finish_ok ok hh r5 f5 hfin
    rw [hdef]
    refine LeavesInM.of_mark hD' k1 ⟨G2, k2, k3, k4, ?_⟩
    cases out with
    | ret a => exact k5
    | own n es => exact k5
    | pan a => exact absurd rfl (k6 a)
  have tail : ∀ (D : Nat) (G3 : Gh) (w3 : World), G3.O D = .none → w3.heap[D]? = some (.deferred (some [])) → w.heap.size ≤ D → RepSt d G3 w3 { s := lkS lB, h := h1 } a2.tmps → a2.tmps.size = fn.ntmps → Fr d G w G3 w3 →
      evC E H fn.ntmps call n rest 0 { s := lkS lB, h := h1 } (fun e st' => match e with | .exit _ => none | _ => finish E H fn h st') (fun _ _ => none) = some (out, h') →
      rest.wpIn (FF none) 0 E.P (bodyPostM (FF none) 0 E.P fn (EndOk d G w out h')) { a2 with defers := { target := .collected D, args := #[] } :: a2.defers } w3 := by
    intro D G3 w3 hO hD hge r3 n3 f3 hev
    refine Code.wpIn_mono (fun e a' w' hq => ?_) (evC_ok (ro := none) (nn := 0) (D := [{ target := .collected D, args := #[] }]) (G0 := G3) (w0 := w3) ok hs rest 0 _ _ _ _ hev ⟨G3, r3, n3, Fr.refl _ _ _⟩ (by show _ :: a2.defers = _; rw [hd2]))
    obtain ⟨hd', hq⟩ := hq
    cases e with
    | normal => obtain ⟨st', G', k1, k2, k3, k4⟩ := hq; exact fin D G3 w3 st' a' G' w' hO hD hge k1 k2 (f3.trans k4) k4 hd'
    | ret => obtain ⟨st', G', k1, k2, k3, k4⟩ := hq; exact fin D G3 w3 st' a' G' w' hO hD hge k1 k2 (f3.trans k4) k4 hd'
    | exit i => obtain ⟨st', G', k1, _⟩ := hq; cases k1
    | panic ch => obtain ⟨x, v, G', h', _, k1, _⟩ := hq; cases k1
    | goto l => exact hq.elim
    | outgrown => exact hq.elim
  refine range_ok (H := H) (n := n) ok hs hL hp hg hsl it hfold hat2 hnp' fun D G3 w3 hge hO hD r3 n3 f3 => ?_
  cases j with
  | none => exact tail D G3 w3 hO hD hge r3 n3 f3 kC
  | some c =>
    cases c with
    | ret => exact wpIn_ret (fin D G3 w3 _ _ G3 w3 hO hD hge kC r3 f3 (Fr.refl _ _ _) (by show _ :: a2.defers = _; rw [hd2]))
    | exit i =>
      have kC : (bif Nat.beq i bi then evC E H fn.ntmps call n rest 0 { s := lkS lB, h := h1 } (fun e st' => match e with | .exit _ => none | _ => finish E H fn h st') (fun _ _ => none) else none) = some (out, h') := kC
      obtain ⟨e0, kD⟩ := condE kC
      have e1 := beqE e0
      subst e1
      refine wpIn_exit ?_
      show if i = i then _ else _
      rw [if_pos rfl]
      exact tail D G3 w3 hO hD hge r3 n3 f3 kD
    | _ => cases kC

/-- The same, with two pieces ahead. -/
theorem range_fn2 (ok : E.Ok) (hs : SoundC E.P call) {f : Nat} {fn : Func} (hfn : E.P.funcs[f]? = some fn) (hname : (fn.name == "runtime.NumGoroutine") = false) {n bi g p : Nat} {A A2 B assign body rest : Code} (hbody : fn.body = some (.seq A (.seq A2 (.seq (.seq B (.block bi (.rangeFunc (.tmp g) #[p] assign body))) rest))))
    {args : List AV} {h : Heap} (hle : args.length ≤ fn.ntmps) (LA : List Nat) {lA : List (Nat × Slot)} {hA : Heap} (kA : evC E H fn.ntmps call n A 0 { s := lkS (argSlots 0 args), h := h } (kL LA) kN = some (lA, hA))
    (L2 : List Nat) {l2 : List (Nat × Slot)} {hA2 : Heap} (kA2 : evC E H fn.ntmps call n A2 0 { s := lkS lA, h := hA } (kL L2) kN = some (l2, hA2))
    (LB : List Nat) {lB : List (Nat × Slot)} {hB : Heap} (kB : evC E H fn.ntmps call n B 0 { s := lkS l2, h := hA2 } (kL LB) kN = some (lB, hB)) {L : List (Nat × Slot)} (hL : (L.all fun p => freeS p.2) = true) (hp : p < fn.ntmps) {gf : Nat} {caps xs : List AV} (hg : lkS lB g = .c (.v (.fn gf [] caps)))
    (hsl : ∀ i, lkS L i = .dead ∨ lkS L i = lkS lB i) (hnp : (lB.all fun q => match q.2 with | .path _ _ => false | _ => true) = true) (it : IterC E.P gf caps xs hB) {r : Option Code × Heap} (hfold : foldR (roundE E H fn.ntmps call n (lkS L) p assign body) xs hB = some r) {out : Out} {h' : Heap}
    (kC : afterR E H fn call n h rest bi lB r = some (out, h')) : Ends E.P f args h out h' := by
  refine ⟨⟨fn, hfn, hname, by rw [hbody]; rfl⟩, fun d G w argv hr hh hw => ?_⟩
  refine (callsIn_wide (n := 0)).1 ?_
  refine callsIn_of_wp_marks (F := FF none) hfn hbody trivial ?_
  have hal : argv.size = args.length := by simpa using hr.length.symm
  have hat : AtSt d fn.ntmps G w { s := lkS (argSlots 0 args), h := h } { tmps := argv ++ Array.replicate (fn.ntmps - argv.size) undef, defers := [] } w := by
    refine ⟨G, ⟨fun i => ?_, fun u t off hu => ?_, hh, hw⟩, by simp; omega, Fr.refl d G w⟩
    · rcases lkS_spec (argSlots 0 args) i with e | e
      · show RepSlot _ _ _ _ (lkS _ _) _
        rw [e]; trivial
      · refine argSlots_spec args 0 argv.toList hr (fun j x hj => ?_) _ e
        have hj' : j < argv.size := by simpa using (List.getElem?_eq_some_iff.1 hj).1
        rw [Nat.zero_add, Array.getD_eq_getD_getElem?, Array.getElem?_append_left hj', ← Array.getElem?_toList, hj]; rfl
    · exfalso
      have hu : lkS (argSlots 0 args) u = .path t off := hu
      have hno : ∀ (l : List AV) (k : Nat) (q : Nat × Slot), q ∈ argSlots k l → ∃ x, q.2 = .c (.v x) := by
        intro l
        induction l with
        | nil => intro k q hq; cases hq
        | cons x l ih =>
          intro k q hq
          rcases List.mem_cons.1 hq with e | e
          · exact ⟨x, by rw [e]⟩
          · exact ih _ q e
      rcases lkS_spec (argSlots 0 args) u with e | e
      · rw [e] at hu; cases hu
      · rw [hu] at e; obtain ⟨x, hx⟩ := hno _ _ _ e; cases hx
  refine wpIn_seq (seg_keep (H := H) ok hs LA kA hat rfl fun a1 w1 hat1 hd1 => ?_)
  refine wpIn_seq (seg_keep (H := H) ok hs L2 kA2 hat1 hd1 fun a1 w1 hat1 hd1 => ?_)
  refine wpIn_seq (wpIn_seq (seg_keep (H := H) ok hs LB kB hat1 hd1 fun a2 w2 hat2 hd2 => ?_))
  refine wpIn_block ?_
  have hnp' : ∀ i t off, lkS lB i ≠ .path t off := fun i t off e => by
    rcases lkS_spec lB i with e1 | e1
    · rw [e1] at e; cases e
    · rw [e] at e1
      have := List.all_eq_true.1 hnp _ e1
      cases this
  obtain ⟨j, h1⟩ := r
  have fin : ∀ (D : Nat) (G3 : Gh) (w3 : World) (st' : St) (a' : Act) (G' : Gh) (w' : World), G3.O D = .none → w3.heap[D]? = some (.deferred (some [])) → D ≥ w.heap.size → finish E H fn h st' = some (out, h') → RepSt d G' w' st' a'.tmps → Fr d G w G' w' → Fr d G3 w3 G' w' →
      a'.defers = [{ target := .collected D, args := #[] }] → LeavesInM (FF none) 0 E.P fn a'.tmps (EndOk d G w out h') a'.defers .returning w' := by
    intro D G3 w3 st' a' G' w' hO hD hge hfin hr' hf' hf3 hdef
    obtain ⟨s1, s2, s3⟩ := hf3.same D (lt_of_heap hD) (by rw [hO]; rfl)
    have hD' : w'.heap[D]? = some (.deferred (some [])) := s1.trans hD
    have r5 := st_putD hD' (s3.trans hO) hr'
    have f5 := hf'.putD hge hD'
    obtain ⟨v, k1, ⟨G2, k2, k3, k4, k5⟩, k6⟩ := finish_ok ok hh r5 f5 hfin
    rw [hdef]
    refine LeavesInM.of_mark hD' k1 ⟨G2, k2, k3, k4, ?_⟩
    cases out with
    | ret a => exact k5
    | own n es => exact k5
    | pan a => exact absurd rfl (k6 a)
  have tail : ∀ (D : Nat) (G3 : Gh) (w3 : World), G3.O D = .none → w3.heap[D]? = some (.deferred (some [])) → w.heap.size ≤ D → RepSt d G3 w3 { s := lkS lB, h := h1 } a2.tmps → a2.tmps.size = fn.ntmps → Fr d G w G3 w3 →
      evC E H fn.ntmps call n rest 0 { s := lkS lB, h := h1 } (fun e st' => match e with | .exit _ => none | _ => finish E H fn h st') (fun _ _ => none) = some (out, h') →
      rest.wpIn (FF none) 0 E.P (bodyPostM (FF none) 0 E.P fn (EndOk d G w out h')) { a2 with defers := { target := .collected D, args := #[] } :: a2.defers } w3 := by
    intro D G3 w3 hO hD hge r3 n3 f3 hev
    refine Code.wpIn_mono (fun e a' w' hq => ?_) (evC_ok (ro := none) (nn := 0) (D := [{ target := .collected D, args := #[] }]) (G0 := G3) (w0 := w3) ok hs rest 0 _ _ _ _ hev ⟨G3, r3, n3, Fr.refl _ _ _⟩ (by show _ :: a2.defers = _; rw [hd2]))
    obtain ⟨hd', hq⟩ := hq
    cases e with
    | normal => obtain ⟨st', G', k1, k2, k3, k4⟩ := hq; exact fin D G3 w3 st' a' G' w' hO hD hge k1 k2 (f3.trans k4) k4 hd'
    | ret => obtain ⟨st', G', k1, k2, k3, k4⟩ := hq; exact fin D G3 w3 st' a' G' w' hO hD hge k1 k2 (f3.trans k4) k4 hd'
    | exit i => obtain ⟨st', G', k1, _⟩ := hq; cases k1
    | panic ch => obtain ⟨x, v, G', h', _, k1, _⟩ := hq; cases k1
    | goto l => exact hq.elim
    | outgrown => exact hq.elim
  refine range_ok (H := H) (n := n) ok hs hL hp hg hsl it hfold hat2 hnp' fun D G3 w3 hge hO hD r3 n3 f3 => ?_
  cases j with
  | none => exact tail D G3 w3 hO hD hge r3 n3 f3 kC
  | some c =>
    cases c with
    | ret => exact wpIn_ret (fin D G3 w3 _ _ G3 w3 hO hD hge kC r3 f3 (Fr.refl _ _ _) (by show _ :: a2.defers = _; rw [hd2]))
    | exit i =>
      have kC : (bif Nat.beq i bi then evC E H fn.ntmps call n rest 0 { s := lkS lB, h := h1 } (fun e st' => match e with | .exit _ => none | _ => finish E H fn h st') (fun _ _ => none) else none) = some (out, h') := kC
      obtain ⟨e0, kD⟩ := condE kC
      have e1 := beqE e0
      subst e1
      refine wpIn_exit ?_
      show if i = i then _ else _
      rw [if_pos rfl]
      exact tail D G3 w3 hO hD hge r3 n3 f3 kD
    | _ => cases kC
end
end Go.Sh
namespace Go.Sh
open Go
theorem partAll {n : Nat} {cs : List AV} (h : cs.length = n) : partA true n 0 cs = some (.agg cs) := by
  unfold partA
  subst h
  rw [Nat.zero_add, show Nat.ble cs.length cs.length = true from by simp, cond_true, cond_true, List.drop_zero, List.take_length]
theorem getD_two (x y : Value) (n : Nat) : (#[x, y] ++ Array.replicate n undef).getD 0 undef = x ∧ (#[x, y] ++ Array.replicate n undef).getD 1 undef = y := by
  constructor <;> (rw [Array.getD_eq_getD_getElem?, Array.getElem?_append_left (by simp)]; rfl)
theorem rep_two {S : Nat → Nat} {w : World} {μ : List Nat} {G : Gh} (hS : G.S = S) (hμ : G.μ = μ) {d : Nat} {x y : Value} {a b : AV} (ha : RepA S w μ a x) (hb : RepA S w μ b y) (n i : Nat) : RepSlot G w d i (lkS [(0, .c (.v a)), (1, .c (.v b))] i) ((#[x, y] ++ Array.replicate n undef).getD i undef) := by
  subst hS; subst hμ
  rcases i with _ | _ | i
  · rw [(getD_two x y n).1]; exact ha
  · rw [(getD_two x y n).2]; exact hb
  · trivial
end Go.Sh

/- A range over a string: steps by hand. -/
namespace Go.Sh
set_option linter.unusedVariables false
set_option linter.unusedSimpArgs false
open Go

section
variable {d : Nat} {G : Gh} {w : World} {st : St} {a : Act} {o : Oper} {ops : Array Oper} {nt nn : Nat} {P : Program}

theorem row_putN {x y : Obj} {l : Nat} (h : w.heap[l]? = some x) (hx : ∀ arr T fz, x ≠ .cells arr T fz) (hy : ∀ arr T fz, y ≠ .cells arr T fz) (b s m : Nat) : row? (w.putObj l y) b s m = row? w b s m := by
  by_cases e : b = l
  · subst e; unfold row?; rw [put_same (lt_of_heap h), h]
    split
    · rename_i h1; exact absurd (Option.some.inj h1) (hy _ _ _)
    · split
      · rename_i h1; exact absurd (Option.some.inj h1) (hx _ _ _)
      · rfl
  · exact row_of_same (put_other e) s m
theorem ext_putN {x y : Obj} {l : Nat} {S : Nat → Nat} {μ : List Nat} (h : w.heap[l]? = some x) (hx : ∀ arr T fz, x ≠ .cells arr T fz) (hy : ∀ arr T fz, y ≠ .cells arr T fz) : Ext S w μ S (w.putObj l y) μ :=
  ⟨fun _ => Nat.le_refl _, fun b s m vals _ hr => by rw [row_putN h hx hy]; exact hr, fun _ _ h => h, fun b => szB_le fun arr T fz e => by
    have hb : b ≠ l := fun e' => by rw [e', h] at e; exact absurd (Option.some.inj e) (hx _ _ _)
    exact ⟨arr, T, fz, (put_other hb).trans e, Nat.le_refl _⟩⟩
theorem st_putN {x y : Obj} {l : Nat} (h : w.heap[l]? = some x) (hx : ∀ arr T fz, x ≠ .cells arr T fz) (hy : ∀ arr T fz, y ≠ .cells arr T fz) (ho : G.O l = .none) {tmps : Array Value} (r : RepSt d G w st tmps) : RepSt d G (w.putObj l y) st tmps :=
  ⟨fun i => (r.slot i).mono' (ext_putN h hx hy) (fun b _ hb => same_put (fun e => by rw [e, ho] at hb; cases hb)) (fun c b _ hb => same_put (fun e => by rw [e, ho] at hb; cases hb)), r.path,
   r.heap.mono' (ext_putN h hx hy) rfl (fun i b _ hb => same_put (fun e => by rw [e, ho] at hb; cases hb)) (fun i c b _ hb => same_put (fun e => by rw [e, ho] at hb; cases hb)), fun b hb => by
    obtain ⟨arr, T, fz, h1, h2⟩ := r.within b hb
    have : b ≠ l := fun e => by rw [e, h] at h1; exact absurd (Option.some.inj h1) (hx _ _ _)
    exact ⟨arr, T, fz, (put_other this).trans h1, h2⟩⟩
theorem Fr.putN {G0 : Gh} {w0 : World} {x y : Obj} {l : Nat} (f : Fr d G0 w0 G w) (hl : w0.heap.size ≤ l) (h : w.heap[l]? = some x) (hx : ∀ arr T fz, x ≠ .cells arr T fz) (hy : ∀ arr T fz, y ≠ .cells arr T fz) : Fr d G0 w0 G (w.putObj l y) := by
  refine ⟨f.os, f.tape, f.output, by simpa using f.size, ⟨f.ext.le, fun c s m vals hs hr => ?_, f.ext.mu, fun c => Nat.le_trans (f.ext.sz c) ((ext_putN (S := G.S) (μ := G.μ) h hx hy).sz c)⟩, fun c hb hq => ?_⟩
  · rw [row_putN h hx hy]; exact f.ext.row c s m vals hs hr
  · obtain ⟨b1, b2, b3⟩ := f.same c hb hq
    exact ⟨by rw [put_other (by omega)]; exact b1, b2, b3⟩

/-- A step that yields a value, in a world that has turned where nothing is told of. -/
theorem step_value {i t : Nat} {G' : Gh} {w' : World} {x : AV} {v : Value} (hi : ops[i]? = some o) (hg : o.guard = none) (hdt : o.dst = some t) (hnd : ∀ c, o.op ≠ .defer c) (ht : t < nt) (hpb : st.pb t = false) (hnt : a.tmps.size = nt)
    (hrun : (execOp a.eval o).run P w = .ok (.value v) w') (r : RepSt d G' w' st a.tmps) (hv : RepA G'.S w' G'.μ x v) {K : Act → World → Prop} {Q : Exit → Act → World → Prop}
    (hK : ∀ a', RepSt d G' w' { s := upd st.s t (.c (.v x)), h := st.h, pb := st.pb } a'.tmps → a'.tmps.size = nt → a'.defers = a.defers → K a' w') : wpOpIn (FF none) nn P ops Q i K a w := by
  unfold wpOpIn
  rw [hi]
  simp only [Region.wanted, hg, if_true]
  refine wp_in none hnd ?_
  unfold Oper.wp
  rw [hrun, Oper.upon_value]
  refine hK _ ?_ (by rw [put_tmps, putT_size, hnt]) (put_defers _ _ _)
  rw [put_tmps, hdt]
  exact r.next (Ext.refl _ _ _) (some t) v (fun _ e => by cases e; rw [hnt]; exact ht) (by simp [freeDst, hpb]) [(t, .c (.v x))] st.h (fun _ e => by cases e; simp) (fun t' s hm => by
    simp only [List.mem_cons, Prod.mk.injEq, List.not_mem_nil, or_false] at hm
    obtain ⟨rfl, rfl⟩ := hm
    show RepA _ _ _ _ ((a.tmps.setIfInBounds t' v).getD t' undef)
    rw [getD_put _ _ _ _ (by rw [hnt]; exact ht), if_pos rfl]; exact hv) (fun _ _ _ hm => by simp at hm) (fun _ _ _ _ _ => ⟨rfl, rfl, rfl⟩) r.heap r.within

/-- A new block that is no cells. -/
theorem st_alloc (x : Obj) {tmps : Array Value} (r : RepSt d G w st tmps) : RepSt d (setO G w.heap.size .none) (w.alloc x) st tmps ∧ Fr d G w (setO G w.heap.size .none) (w.alloc x) := by
  obtain ⟨fa, wa, sa⟩ := frame_alloc (d := d) r.within x .none
  exact ⟨⟨fun i => (r.slot i).mono' fa.ext (fun b hb _ => sa b hb) (fun c b hb _ => sa b hb), r.path, r.heap.mono' fa.ext rfl (fun i b hb _ => sa b hb) (fun i c b hb _ => sa b hb), wa⟩, fa⟩
end
end Go.Sh

/- Types as plain data: what the shadow's cells of a type are. -/
namespace Go.Sh.T
set_option linter.unusedVariables false
set_option linter.unusedSimpArgs false
open Go Go.Sh

structure Ty where
  k : Int
  n : Int
  name : ByteArray
  labels : List ByteArray
  args : List Ty

def strC (s : ByteArray) : List AV := [.lit (.string s)]

mutual
def Ty.cells : Ty → List AV
  | ⟨k, n, s, ls, xs⟩ => [.lit (.int .i64 k), .lit (.int .i64 n), .lit (.string s), .sl 1 (ls.map strC), .sl 5 (Ty.cellsL xs)]
def Ty.cellsL : List Ty → List (List AV)
  | [] => []
  | t :: r => t.cells :: Ty.cellsL r
end

theorem Ty.cellsL_map : ∀ l : List Ty, Ty.cellsL l = l.map Ty.cells
  | [] => rfl
  | t :: r => by rw [Ty.cellsL, Ty.cellsL_map r]; rfl

theorem Ty.cells_eq (t : Ty) : t.cells = [.lit (.int .i64 t.k), .lit (.int .i64 t.n), .lit (.string t.name), .sl 1 (t.labels.map strC), .sl 5 (t.args.map Ty.cells)] := by
  cases t; rw [Ty.cells, Ty.cellsL_map]

@[simp] theorem Ty.cells_len (t : Ty) : t.cells.length = 5 := by rw [Ty.cells_eq]; rfl
@[simp] theorem Ty.c0 (t : Ty) : t.cells.getD 0 .dead = .lit (.int .i64 t.k) := by rw [Ty.cells_eq]; rfl
@[simp] theorem Ty.c1 (t : Ty) : t.cells.getD 1 .dead = .lit (.int .i64 t.n) := by rw [Ty.cells_eq]; rfl
@[simp] theorem Ty.c2 (t : Ty) : t.cells.getD 2 .dead = .lit (.string t.name) := by rw [Ty.cells_eq]; rfl
@[simp] theorem Ty.c3 (t : Ty) : t.cells.getD 3 .dead = .sl 1 (t.labels.map strC) := by rw [Ty.cells_eq]; rfl
@[simp] theorem Ty.c4 (t : Ty) : t.cells.getD 4 .dead = .sl 5 (t.args.map Ty.cells) := by rw [Ty.cells_eq]; rfl
theorem Ty.fold (k n : Int) (s : ByteArray) (ls : List ByteArray) (xs : List Ty) : [AV.lit (.int .i64 k), .lit (.int .i64 n), .lit (.string s), .sl 1 (ls.map strC), .sl 5 (xs.map Ty.cells)] = (Ty.mk k n s ls xs).cells := by rw [Ty.cells_eq]

theorem partA_full {n : Nat} {cs : List AV} (h : cs.length = n) : partA true n 0 cs = some (.agg cs) := by
  unfold partA
  subst h
  rw [Nat.zero_add, show Nat.ble cs.length cs.length = true from by simp, cond_true, cond_true, List.drop_zero, List.take_length]
theorem bind_some' {α β : Type} (a : α) (f : α → Option β) : (some a).bind f = f a := (Eq.refl _).trans rfl
theorem onOut_ret {ρ : Type} (a : AV) (h : Heap) (k1 : AV → Heap → Option ρ) (k2 : Nat → List (List AV) → Heap → Option ρ) (k3 : AV → Heap → Option ρ) : onOut (some (.ret a, h)) k1 k2 k3 = k1 a h := (Eq.refl _).trans rfl
theorem bin_int {E : Env} (op : BinOp) (T : TypeId) (k : IntKind) (x y : Int) : binAV E op T (.lit (.int k x)) (.lit (.int k y)) = intBin op k x y := by simp [binAV]
theorem indexA_map {α : Type} (l : List α) (f : α → List AV) (m : Nat) (i : Nat) (h : i < l.length) : indexA m (.sl m (l.map f)) (.lit (.int .i64 (i : Int))) = some (f l[i]) := by
  simp [indexA, slOf, intOf, h]

mutual
def Ty.nodes : Ty → Int
  | ⟨_, _, _, _, xs⟩ => Ty.nodesL 1 xs
def Ty.nodesL : Int → List Ty → Int
  | acc, [] => acc
  | acc, t :: r => Ty.nodesL (IntKind.i64.wrap (acc + t.nodes)) r
end

inductive Ty.Ok : Ty → Prop
  | mk {t : Ty} (hk : (Lit.int .i64 t.k).wf = true) (hn : (Lit.int .i64 t.n).wf = true) (hs : t.name.size ≤ maxLen) (hl : t.labels.length ≤ maxLen) (hls : ∀ s ∈ t.labels, s.size ≤ maxLen) (ha : t.args.length ≤ maxLen) (has : ∀ a ∈ t.args, a.Ok) : t.Ok

theorem Ty.Ok.len {t : Ty} (h : t.Ok) : t.args.length ≤ 9223372036854775807 := by cases h with | mk _ _ _ _ _ ha _ => exact ha
theorem Ty.Ok.arg {t : Ty} (h : t.Ok) {a : Ty} (ha : a ∈ t.args) : a.Ok := by cases h with | mk _ _ _ _ _ _ has => exact has a ha

theorem inc {i : Nat} (h : i < 9223372036854775807) : intBin .add .i64 (i : Int) 1 = some (.lit (.int .i64 ((i + 1 : Nat) : Int))) := by
  simp only [intBin]
  rw [IntWalk.i64_in _ (by omega)]
  simp

theorem Ty.size_arg {t : Ty} {i : Nat} (hi : i < t.args.length) : SizeOf.sizeOf t.args[i] < SizeOf.sizeOf t := by
  have := List.sizeOf_lt_of_mem (List.getElem_mem hi)
  cases t with
  | mk k n s ls xs => simp only [Ty.mk.sizeOf_spec] at *; omega

mutual
def Ty.has (k : Int) : Ty → Bool
  | ⟨k', _, _, _, xs⟩ => k' == k || Ty.hasL k xs
def Ty.hasL (k : Int) : List Ty → Bool
  | [] => false
  | t :: r => t.has k || Ty.hasL k r
end
theorem Ty.refold (t : Ty) : [t.cells.getD 0 .dead, t.cells.getD 1 .dead, t.cells.getD 2 .dead, t.cells.getD 3 .dead, t.cells.getD 4 .dead] = t.cells := by
  rw [Ty.cells_eq]; rfl

mutual
def Ty.pre : Ty → List Ty
  | ⟨k, n, s, ls, xs⟩ => ⟨k, n, s, ls, xs⟩ :: Ty.preL xs
def Ty.preL : List Ty → List Ty
  | [] => []
  | t :: r => t.pre ++ Ty.preL r
end
theorem Ty.pre_eq (t : Ty) : t.pre = t :: Ty.preL t.args := by cases t; rw [Ty.pre]
theorem Ty.preL_cons (t : Ty) (r : List Ty) : Ty.preL (t :: r) = t.pre ++ Ty.preL r := by rw [Ty.preL]
mutual
theorem Ty.has_pre (k : Int) : ∀ t : Ty, t.has k = t.pre.any (fun x => x.k == k)
  | ⟨k', n, s, ls, xs⟩ => by rw [Ty.has, Ty.pre, List.any_cons, Ty.hasL_pre k xs]
theorem Ty.hasL_pre (k : Int) : ∀ l : List Ty, Ty.hasL k l = (Ty.preL l).any (fun x => x.k == k)
  | [] => by rw [Ty.hasL, Ty.preL]; rfl
  | t :: r => by rw [Ty.hasL, Ty.preL, List.any_append, Ty.has_pre k t, Ty.hasL_pre k r]
end

mutual
def Ty.small : Ty → Bool
  | ⟨_, _, _, _, xs⟩ => Nat.ble xs.length 9223372036854775807 && Ty.smallL xs
def Ty.smallL : List Ty → Bool
  | [] => true
  | t :: r => t.small && Ty.smallL r
end
mutual
theorem Ty.ok_small : ∀ t : Ty, t.Ok → t.small = true
  | ⟨k, n, s, ls, xs⟩, h => by
    rw [Ty.small, Bool.and_eq_true]
    exact ⟨by rw [Nat.ble_eq]; exact h.len, Ty.ok_smallL xs fun a ha => h.arg ha⟩
theorem Ty.ok_smallL : ∀ l : List Ty, (∀ a ∈ l, a.Ok) → Ty.smallL l = true
  | [], _ => by rw [Ty.smallL]
  | t :: r, h => by
    rw [Ty.smallL, Bool.and_eq_true]
    exact ⟨Ty.ok_small t (h t List.mem_cons_self), Ty.ok_smallL r fun a ha => h a (List.mem_cons_of_mem _ ha)⟩
end

/- reading a type back -/
def decS : List AV → Option ByteArray
  | [.lit (.string s)] => some s
  | _ => none
def decSs : List (List AV) → Option (List ByteArray)
  | [] => some []
  | x :: r => (decS x).bind fun s => (decSs r).bind fun l => some (s :: l)
mutual
def decA : AV → Option (List Ty)
  | .sl 5 es => decE es
  | _ => none
def decC : List AV → Option Ty
  | [] => none
  | a :: r => match a, r with
    | .lit (.int .i64 k), [.lit (.int .i64 n), .lit (.string s), .sl 1 ls, b] => (decSs ls).bind fun l => (decA b).bind fun xs => some ⟨k, n, s, l, xs⟩
    | _, _ => none
def decE : List (List AV) → Option (List Ty)
  | [] => some []
  | c :: r => (decC c).bind fun t => (decE r).bind fun l => some (t :: l)
end
theorem decS_ok : ∀ {x : List AV} {s : ByteArray}, decS x = some s → x = strC s := by
  intro x s h
  unfold decS at h
  split at h
  · have h := Option.some.inj h; subst h; rfl
  · cases h
theorem decSs_ok : ∀ {l : List (List AV)} {m : List ByteArray}, decSs l = some m → l = m.map strC
  | [], m, h => by cases h; rfl
  | x :: r, m, h => by
    unfold decSs at h
    rw [Option.bind_eq_some_iff] at h; obtain ⟨s, hs, h⟩ := h
    rw [Option.bind_eq_some_iff] at h; obtain ⟨l, hl, h⟩ := h
    have h := Option.some.inj h; subst h
    rw [decS_ok hs, decSs_ok hl]; rfl
mutual
theorem decA_ok : ∀ {a : AV} {l : List Ty}, decA a = some l → a = .sl 5 (l.map Ty.cells)
  | .sl n es, l, h => by
    unfold decA at h
    split at h
    · rename_i h1 h2; cases h2; rw [decE_ok h]
    · cases h
  | .lit _, l, h => by unfold decA at h; cases h
  | .agg _, l, h => by unfold decA at h; cases h
  | .tup _, l, h => by unfold decA at h; cases h
  | .hp _ _, l, h => by unfold decA at h; cases h
  | .ro _, l, h => by unfold decA at h; cases h
  | .fn _ _ _, l, h => by unfold decA at h; cases h
  | .ifc _ _, l, h => by unfold decA at h; cases h
  | .dead, l, h => by unfold decA at h; cases h
theorem decC_ok : ∀ {c : List AV} {t : Ty}, decC c = some t → c = t.cells
  | [], t, h => by unfold decC at h; cases h
  | a :: r, t, h => by
    unfold decC at h
    split at h
    · rename_i k n s ls b
      rw [Option.bind_eq_some_iff] at h; obtain ⟨l, hl, h⟩ := h
      rw [Option.bind_eq_some_iff] at h; obtain ⟨xs, hx, h⟩ := h
      have h := Option.some.inj h; subst h
      rw [Ty.cells_eq, decSs_ok hl, decA_ok hx]
    · cases h
theorem decE_ok : ∀ {es : List (List AV)} {l : List Ty}, decE es = some l → es = l.map Ty.cells
  | [], l, h => by unfold decE at h; cases h; rfl
  | c :: r, l, h => by
    unfold decE at h
    rw [Option.bind_eq_some_iff] at h; obtain ⟨t, ht, h⟩ := h
    rw [Option.bind_eq_some_iff] at h; obtain ⟨m, hm, h⟩ := h
    have h := Option.some.inj h; subst h
    rw [decC_ok ht, decE_ok hm]; rfl
end
theorem decSs_map : ∀ l : List ByteArray, decSs (l.map strC) = some l
  | [] => rfl
  | s :: r => by
    rw [List.map_cons, decSs, decSs_map r]; rfl
mutual
theorem decC_cells : ∀ t : Ty, decC t.cells = some t
  | ⟨k, n, s, ls, xs⟩ => by
    rw [Ty.cells, decC, decSs_map, decA, decE_cells xs]; rfl
theorem decE_cells : ∀ l : List Ty, decE (Ty.cellsL l) = some l
  | [] => by rw [Ty.cellsL, decE]
  | t :: r => by
    rw [Ty.cellsL, decE, decC_cells t, decE_cells r]; rfl
end

/- not by computing: the kernel is to compare nothing -/
theorem condF {α : Type} (x y : α) : cond false x y = y := by
  have h : ∀ b, b = false → cond b x y = y := by intro b hb; subst hb; rfl
  exact h false rfl
theorem condT {α : Type} (x y : α) : cond true x y = x := by
  have h : ∀ b, b = true → cond b x y = x := by intro b hb; subst hb; rfl
  exact h true rfl

def add64 (x y : Int) : Int := IntKind.i64.wrap (x + y)
def sub64 (x y : Int) : Int := IntKind.i64.wrap (x - y)
theorem lssI (x y : Int) : intBin .lss .i64 x y = some (.lit (.bool (decide (x < y)))) := (Eq.refl _).trans rfl
theorem gtrI (x y : Int) : intBin .gtr .i64 x y = some (.lit (.bool (decide (x > y)))) := (Eq.refl _).trans rfl
theorem leqI (x y : Int) : intBin .leq .i64 x y = some (.lit (.bool (decide (x ≤ y)))) := (Eq.refl _).trans rfl
theorem geqI (x y : Int) : intBin .geq .i64 x y = some (.lit (.bool (decide (x ≥ y)))) := (Eq.refl _).trans rfl
theorem eqlI (x y : Int) : intBin .eql .i64 x y = some (.lit (.bool (x == y))) := (Eq.refl _).trans rfl
theorem neqI (x y : Int) : intBin .neq .i64 x y = some (.lit (.bool (x != y))) := (Eq.refl _).trans rfl
theorem addI (x y : Int) : intBin .add .i64 x y = some (.lit (.int .i64 (add64 x y))) := (Eq.refl _).trans rfl
theorem subI (x y : Int) : intBin .sub .i64 x y = some (.lit (.int .i64 (sub64 x y))) := (Eq.refl _).trans rfl
theorem incI {i : Nat} (h : i < 9223372036854775807) : add64 (i : Int) 1 = ((i + 1 : Nat) : Int) := by
  unfold add64
  rw [IntWalk.i64_in _ (by omega)]; rfl
theorem boolB (b : Bool) : boolOf (.lit (.bool b)) = some b := (Eq.refl _).trans rfl
theorem notB (b : Bool) : unAV .not (.lit (.bool b)) = some (.lit (.bool (!b))) := (Eq.refl _).trans rfl
theorem aggS (l : List AV) : aggOf (.agg l) = some l := (Eq.refl _).trans rfl
theorem ltT {i n : Nat} (h : i < n) : decide ((i : Int) < (n : Int)) = true := by simpa using h
theorem ltF {i n : Nat} (h : ¬ i < n) : decide ((i : Int) < (n : Int)) = false := by simpa using h

/- the heap -/
theorem hpart_app (agg : Bool) (n off i : Nat) (h hs : Heap) : hpart agg n off (h.length + i) (h ++ hs) = hpart agg n off i hs := by
  unfold hpart
  rw [List.getElem?_append_right (by omega), Nat.add_sub_cancel_left]
theorem hpart_app0 (agg : Bool) (n off : Nat) (h hs : Heap) : hpart agg n off h.length (h ++ hs) = hpart agg n off 0 hs := hpart_app agg n off 0 h hs
theorem hstore_app (h hs : Heap) (i off : Nat) (l : List Cell) : hstore (h ++ hs) (h.length + i) off l = (hstore hs i off l).map (h ++ ·) := by
  unfold hstore
  rw [List.getElem?_append_right (by omega), Nat.add_sub_cancel_left]
  cases hs[i]? with
  | none => rfl
  | some cs =>
    simp only [Option.bind_some]
    cases cs.isEmpty with
    | true => rfl
    | false =>
      simp only [cond_false]
      cases splice cs off l with
      | none => rfl
      | some cs' => simp
theorem hstore_app0 (h hs : Heap) (off : Nat) (l : List Cell) : hstore (h ++ hs) h.length off l = (hstore hs 0 off l).map (h ++ ·) := hstore_app h hs 0 off l
theorem trunc_app {H : FHint} (hb : (H.hb.isEmpty || H.esc) = false) {h hs : Heap} {out : Out} (ho : out.lt h.length) : trunc H h out (h ++ hs) = some (out, h) := by
  rw [trunc_of hb ⟨ho, by simp, .inl (by simp)⟩, List.take_left]
mutual
theorem Ty.cells_lt (m : Nat) : ∀ t : Ty, ∀ a ∈ t.cells, AV.lt m a
  | ⟨k, n, s, ls, xs⟩ => by
    intro a ha
    rw [Ty.cells] at ha
    simp only [List.mem_cons, List.not_mem_nil, or_false] at ha
    rcases ha with e | e | e | e | e
    · rw [e]; exact .lit _
    · rw [e]; exact .lit _
    · rw [e]; exact .lit _
    · rw [e]; refine .sl _ fun x hx b hb => ?_
      obtain ⟨s, _, rfl⟩ := List.mem_map.1 hx
      rcases List.mem_cons.1 hb with e | e
      · rw [e]; exact .lit _
      · cases e
    · rw [e]; exact .sl _ (Ty.cellsL_lt m xs)
theorem Ty.cellsL_lt (m : Nat) : ∀ l : List Ty, ∀ x ∈ Ty.cellsL l, ∀ a ∈ x, AV.lt m a
  | [] => by intro x hx; rw [Ty.cellsL] at hx; cases hx
  | t :: r => by
    intro x hx
    rw [Ty.cellsL] at hx
    rcases List.mem_cons.1 hx with e | e
    · rw [e]; exact Ty.cells_lt m t
    · exact Ty.cellsL_lt m r x e
end
end Go.Sh.T

/- A function that looks at none of the heap: what it does to memory of its own is not seen from outside. A call by hand. -/
namespace Go.Sh
open Go
set_option linter.unusedVariables false
set_option linter.unusedSimpArgs false

section
variable {S S' : Nat → Nat} {w : World} {μ μ' : List Nat}
mutual
theorem RepA.free (hS : ∀ b, S b ≤ S' b) {a : AV} {v : Value} : RepA S w μ a v → AV.lt 0 a → RepA S' w μ' a v
  | .lit h, _ => .lit h
  | .agg h, hl => .agg (RepC.free hS h (by cases hl with | agg h => exact h))
  | .tup h, hl => .tup (RepL.free hS h (by cases hl with | tup h => exact h))
  | .slN n, _ => .slN n
  | .slE n a, _ => .slE n a
  | .sl hc hr hv hs hn, hl => .sl hc hr (RepC.free hS hv (by
      cases hl with
      | sl _ h => intro a ha; obtain ⟨x, hx, hax⟩ := List.mem_flatten.1 ha; exact h x hx a hax)) (Nat.le_trans hs (hS _)) hn
  | .hp off h, hl => absurd hl (fun hl => by cases hl with | hp _ h => exact absurd h (Nat.not_lt_zero _))
  | .ro hr hv hs, hl => .ro hr (RepC.free hS hv (by cases hl with | ro h => exact h)) (Nat.le_trans hs (hS _))
  | .fn h h', hl => .fn (RepL.free hS h (by cases hl with | fn _ h _ => exact h)) (RepL.free hS h' (by cases hl with | fn _ _ h => exact h))
  | .ifc h, hl => .ifc (RepA.free hS h (by cases hl with | ifc _ h => exact h))
  | .dead v, _ => .dead v
theorem RepL.free (hS : ∀ b, S b ≤ S' b) {l : List AV} {m : List Value} : RepL S w μ l m → (∀ a ∈ l, AV.lt 0 a) → RepL S' w μ' l m
  | .nil, _ => .nil
  | .cons h t, hl => .cons (RepA.free hS h (hl _ List.mem_cons_self)) (RepL.free hS t fun a ha => hl a (List.mem_cons_of_mem _ ha))
theorem RepC.free (hS : ∀ b, S b ≤ S' b) {l : List AV} {m : List Value} : RepC S w μ l m → (∀ a ∈ l, AV.lt 0 a) → RepC S' w μ' l m
  | .nil, _ => .nil
  | .cons h o t, hl => .cons (RepA.free hS h (hl _ List.mem_cons_self)) o (RepC.free hS t fun a ha => hl a (List.mem_cons_of_mem _ ha))
end
end

/-- What is new, sealed. -/
def fresh (w w' : World) : Nat → Nat := fun b => if b < w.heap.size then 0 else (sealAll w').S b

/-- What a call ends in that has turned nothing that was there, and hands out what is new. -/
def LoneEnd (w : World) (out : AV) (e : Ending) (w' : World) : Prop :=
  ∃ v, e = .returned v ∧ w'.os = w.os ∧ w'.tape = w.tape ∧ w'.output = w.output ∧ w.heap.size ≤ w'.heap.size ∧ (∀ b, b < w.heap.size → w'.heap[b]? = w.heap[b]?) ∧ RepA (fresh w w') w' [] out v

theorem within_le {G : Gh} {w : World} (h : Within G w) (b : Nat) : G.S b ≤ (sealAll w).S b := by
  by_cases h0 : G.S b = 0
  · omega
  · obtain ⟨arr, T, fz, h1, h2⟩ := h b h0
    show _ ≤ match w.heap[b]? with | some (.cells arr _ _) => arr.size | _ => 0
    rw [h1]; exact h2
theorem within_lt {G : Gh} {w : World} (h : Within G w) {b : Nat} (hb : w.heap.size ≤ b) : G.S b = 0 := by
  by_cases h0 : G.S b = 0
  · exact h0
  · obtain ⟨arr, T, fz, h1, h2⟩ := h b h0
    have := lt_of_heap h1
    omega

theorem cell_keep {G G' : Gh} {w w' : World} (x : Ext G.S w G.μ G'.S w' G'.μ) (hs : ∀ b, b < w.heap.size → w'.heap[b]? = w.heap[b]? ∧ G'.S b = G.S b ∧ G'.O b = G.O b) {p : Owner} {c : Cell} {v : Value} (h : RepCell G w p c v) : RepCell G' w' p c v := by
  cases c with
  | v a => exact RepA.mono x h
  | nil n => exact h
  | own n es =>
    rcases h with h | ⟨b, cap, arr, T, hv, ho, hh, ha, hc, hS, hr, hn⟩
    · exact .inl h
    · obtain ⟨h1, h2, h3⟩ := hs b (lt_of_heap hh)
      exact .inr ⟨b, cap, arr, T, hv, h3.trans ho, h1.trans hh, ha, hc, h2.trans hS, RepC.mono x hr, hn⟩
theorem heap_keep {G G' : Gh} {w w' : World} {h : Heap} (x : Ext G.S w G.μ G'.S w' G'.μ) (hm : G'.μ = G.μ) (hs : ∀ b, b < w.heap.size → w'.heap[b]? = w.heap[b]? ∧ G'.S b = G.S b ∧ G'.O b = G.O b) (hh : RepHeap G w h) : RepHeap G' w' h := by
  obtain ⟨h1, h2, h3⟩ := hh
  refine ⟨by rw [hm]; exact h1, fun i cs hi hne => ?_, fun g l e => RepA.mono x (h3 g l e)⟩
  obtain ⟨b, arr, T, k1, k2, k3, k4, k5⟩ := h2 i cs hi hne
  obtain ⟨j1, j2, j3⟩ := hs b (lt_of_heap k3)
  refine ⟨b, arr, T, by rw [hm]; exact k1, j3.trans k2, j1.trans k3, j2.trans k4, k5.1, fun j c hj => ?_⟩
  obtain ⟨v, e1, e2, e3⟩ := k5.2 j c hj
  exact ⟨v, e1, cell_keep x hs e2, e3⟩

/-- A FUNCTION BY ITSELF: whoever calls it. -/
theorem lone {P : Program} {f : Nat} {args : List AV} {out : AV} (hc : Callable P f) (ha : ∀ a ∈ args, AV.lt 0 a) (ho : AV.lt 0 out)
    (h : ∀ w (argv : Array Value), GlobsOk (sealAll w) w → RepL (sealAll w).S w [] args argv.toList → Calls P f argv w (LoneEnd w out)) (hh : Heap) : Ends P f args hh (.ret out) hh := by
  refine ⟨hc, fun d G w argv hr hhp hw => ?_⟩
  refine (h w argv (fun g l e => RepA.free (fun b => within_le hw b) (hhp.2.2 g l e) (numC_lt 0 l)) (RepL.free (fun b => within_le hw b) hr ha)).mono fun e w' hq => ?_
  obtain ⟨v, rfl, q1, q2, q3, q4, q5, q6⟩ := hq
  have key : ∀ b, b < w.heap.size → w'.heap[b]? = w.heap[b]? ∧ (fun b => if b < w.heap.size then G.S b else (sealAll w').S b) b = G.S b ∧ G.O b = G.O b := fun b hb => ⟨q5 b hb, if_pos hb, rfl⟩
  have hx : Ext G.S w G.μ (fun b => if b < w.heap.size then G.S b else (sealAll w').S b) w' G.μ := by
    refine ⟨fun b => ?_, fun b o m vals hs hr => ?_, fun _ _ h => h, fun b => szB_le fun arr T fz e => ⟨arr, T, fz, (q5 b (lt_of_heap e)).trans e, Nat.le_refl _⟩⟩
    · show _ ≤ if _ then _ else _
      split
      · exact Nat.le_refl _
      · rename_i hb; rw [within_lt hw (by omega)]; exact Nat.zero_le _
    · by_cases hb : b < w.heap.size
      · rw [row_of_same (q5 b hb)]; exact hr
      · exfalso
        unfold row? at hr
        rw [Array.getElem?_eq_none (by omega)] at hr
        cases hr
  refine ⟨⟨fun b => if b < w.heap.size then G.S b else (sealAll w').S b, G.O, G.μ⟩, ⟨q1, q2, q3, q4, hx, fun b hb _ => key b hb⟩, heap_keep (G' := ⟨_, G.O, G.μ⟩) hx rfl key hhp, ?_, ?_⟩
  · intro b hb
    have hb : (if b < w.heap.size then G.S b else (sealAll w').S b) ≠ 0 := hb
    by_cases hlt : b < w.heap.size
    · rw [if_pos hlt] at hb
      obtain ⟨arr, T, fz, h1, h2⟩ := hw b hb
      exact ⟨arr, T, fz, (q5 b hlt).trans h1, by show (if _ then _ else _) ≤ _; rw [if_pos hlt]; exact h2⟩
    · rw [if_neg hlt] at hb
      obtain ⟨arr, T, fz, h1, h2⟩ := within_all w' b hb
      exact ⟨arr, T, fz, h1, by show (if _ then _ else _) ≤ _; rw [if_neg hlt]; exact h2⟩
  · refine RepA.free (fun b => ?_) q6 ho
    show fresh w w' b ≤ if _ then _ else _
    unfold fresh
    split
    · exact Nat.zero_le _
    · exact Nat.le_refl _

section
variable {P : Program} {w : World} {a : Act} {o : Oper} {ops : Array Oper} {nn : Nat}
/-- A call by hand. -/
theorem step_callX {i : Nat} (hi : ops[i]? = some o) (hg : o.guard = none) {c : Call} (ho : o.op = .call c) {f : Nat} (hb : c.callee = .value (.func f)) (hc : Callable P f) {R : Ending → World → Prop} (hcl : Calls P f (c.args.map a.eval) w R)
    {K : Act → World → Prop} {Q : Exit → Act → World → Prop} (hR : ∀ e w', R e w' → ∃ v, e = .returned v ∧ K (a.put o.dst v) w') : wpOpIn (FF none) nn P ops Q i K a w := by
  unfold wpOpIn
  rw [hi]
  simp only [Region.wanted, hg, if_true]
  refine wp_in none (fun d hd => by rw [ho] at hd; cases hd) ?_
  unfold Oper.wp
  have hx : a.eval (.func f) = .func (.func f) #[] #[] := rfl
  rw [run_call P ho hb hx hc, Oper.upon_enter, Array.empty_append, Array.append_empty]
  refine hcl.mono fun e w1 he => ?_
  obtain ⟨v, rfl, hk⟩ := hR e w1 he
  exact hk
/-- An operation that yields a value and turns nothing. -/
theorem step_pureX {i : Nat} (hi : ops[i]? = some o) (hg : o.guard = none) (hnd : ∀ c, o.op ≠ .defer c) {v : Value} (hrun : (execOp a.eval o).run P w = .ok (.value v) w) {K : Act → World → Prop} {Q : Exit → Act → World → Prop} (hK : K (a.put o.dst v) w) : wpOpIn (FF none) nn P ops Q i K a w := by
  unfold wpOpIn
  rw [hi]
  simp only [Region.wanted, hg, if_true]
  refine wp_in none hnd ?_
  unfold Oper.wp
  rw [hrun, Oper.upon_value]
  exact hK
end
end Go.Sh

/- Sorted and compacted: the list that rises, each once. No program, no memory. -/
namespace Go.Sh
open Go
set_option linter.unusedVariables false
set_option linter.unusedSimpArgs false
abbrev By := List UInt8

theorem by_total (x y : By) : x ≤ y ∨ y ≤ x := List.le_total x y
theorem by_trans {x y z : By} (h : x ≤ y) (k : y ≤ z) : x ≤ z := List.le_trans h k
theorem by_anti {x y : By} (h : x ≤ y) (k : y ≤ x) : x = y := List.le_antisymm h k
theorem by_lt_of {x y : By} (h : x ≤ y) (k : x ≠ y) : x < y := by
  rcases Decidable.em (x < y) with e | e
  · exact e
  · exact absurd (by_anti h (List.not_lt.1 e)) k
theorem by_le {x y : By} (h : x < y) : x ≤ y := List.le_of_lt h
theorem by_irrefl (x : By) : ¬ x < x := List.lt_irrefl x
theorem by_lt_trans {x y z : By} (h : x < y) (k : y < z) : x < z := List.lt_trans h k
theorem by_le_lt {x y z : By} (h : x ≤ y) (k : y < z) : x < z := by
  refine by_lt_of (by_trans h (by_le k)) fun e => ?_
  subst e
  exact absurd k (List.not_lt.2 h)

/-- A text, put in its place, once. -/
def putB : List By → By → List By
  | [], s => [s]
  | x :: r, s => bif decide (x < s) then x :: putB r s else bif decide (s < x) then s :: x :: r else x :: r
theorem putB_mem {s y : By} : ∀ {l : List By}, y ∈ putB l s ↔ y = s ∨ y ∈ l
  | [] => by rw [putB]; simp
  | x :: r => by
    rw [putB]
    by_cases h1 : x < s
    · rw [decide_eq_true h1, cond_true, List.mem_cons, putB_mem, List.mem_cons]
      constructor
      · rintro (e | e | e) <;> simp [e]
      · rintro (e | e | e) <;> simp [e]
    · rw [decide_eq_false h1, cond_false]
      by_cases h2 : s < x
      · rw [decide_eq_true h2, cond_true]; simp
      · rw [decide_eq_false h2, cond_false]
        have : x = s := by_anti (List.not_lt.1 h2) (List.not_lt.1 h1)
        subst this
        simp
theorem putB_rise {s : By} : ∀ {l : List By}, l.Pairwise (· < ·) → (putB l s).Pairwise (· < ·)
  | [], _ => by rw [putB]; exact List.pairwise_singleton _ _
  | x :: r, h => by
    have hc := List.pairwise_cons.1 h
    rw [putB]
    by_cases h1 : x < s
    · rw [decide_eq_true h1, cond_true]
      refine List.pairwise_cons.2 ⟨fun y hy => ?_, putB_rise hc.2⟩
      rcases putB_mem.1 hy with e | e
      · rw [e]; exact h1
      · exact hc.1 y e
    · rw [decide_eq_false h1, cond_false]
      by_cases h2 : s < x
      · rw [decide_eq_true h2, cond_true]
        refine List.pairwise_cons.2 ⟨fun y hy => ?_, h⟩
        rcases List.mem_cons.1 hy with e | e
        · rw [e]; exact h2
        · exact by_lt_trans h2 (hc.1 y e)
      · rw [decide_eq_false h2, cond_false]; exact h
def riseB (zs : List By) : List By := zs.foldl putB []
theorem foldB_mem {y : By} : ∀ (zs l : List By), y ∈ zs.foldl putB l ↔ y ∈ zs ∨ y ∈ l
  | [], l => by simp
  | z :: zs, l => by
    rw [List.foldl_cons, foldB_mem zs, putB_mem, List.mem_cons]
    constructor
    · rintro (e | e | e) <;> simp [e]
    · rintro ((e | e) | e) <;> simp [e]
theorem foldB_rise : ∀ (zs l : List By), l.Pairwise (· < ·) → (zs.foldl putB l).Pairwise (· < ·)
  | [], l, h => h
  | z :: zs, l, h => by rw [List.foldl_cons]; exact foldB_rise zs _ (putB_rise h)
theorem riseB_mem {zs : List By} {y : By} : y ∈ riseB zs ↔ y ∈ zs := by unfold riseB; rw [foldB_mem]; simp
theorem riseB_rise (zs : List By) : (riseB zs).Pairwise (· < ·) := foldB_rise zs [] List.Pairwise.nil

/-- Two that rise and have the same are the same. -/
theorem rise_same : ∀ (l m : List By), l.Pairwise (· < ·) → m.Pairwise (· < ·) → (∀ y, y ∈ l ↔ y ∈ m) → l = m
  | [], [], _, _, _ => rfl
  | [], y :: m, _, _, h => absurd ((h y).2 List.mem_cons_self) (by simp)
  | x :: l, [], _, _, h => absurd ((h x).1 List.mem_cons_self) (by simp)
  | x :: l, y :: m, hl, hm, h => by
    have cl := List.pairwise_cons.1 hl
    have cm := List.pairwise_cons.1 hm
    have e : x = y := by
      rcases List.mem_cons.1 ((h x).1 List.mem_cons_self) with e | e
      · exact e
      · rcases List.mem_cons.1 ((h y).2 List.mem_cons_self) with e' | e'
        · exact e'.symm
        · exact absurd (by_lt_trans (cm.1 x e) (cl.1 y e')) (by_irrefl _)
    subst e
    rw [rise_same l m cl.2 cm.2 fun z => ?_]
    constructor
    · intro hz
      rcases List.mem_cons.1 ((h z).1 (List.mem_cons_of_mem _ hz)) with e | e
      · subst e; exact absurd (cl.1 z hz) (by_irrefl _)
      · exact e
    · intro hz
      rcases List.mem_cons.1 ((h z).2 (List.mem_cons_of_mem _ hz)) with e | e
      · subst e; exact absurd (cm.1 z hz) (by_irrefl _)
      · exact e

/- what slices.Compact leaves of a sorted list -/
theorem compact_spec (d : Array By) (hs : ∀ i j, i ≤ j → j < d.size → d[i]! ≤ d[j]!) : ∀ m, m ≤ d.size → (∀ x ∈ Lib.compactUpTo d m, ∃ j, j < m ∧ x = d[j]!) ∧ (∀ j, j < m → d[j]! ∈ Lib.compactUpTo d m) ∧ (Lib.compactUpTo d m).Pairwise (· < ·)
  | 0, _ => ⟨fun x hx => by simp [Lib.compactUpTo] at hx, fun j hj => by omega, by simp [Lib.compactUpTo]⟩
  | m + 1, hm => by
    obtain ⟨h1, h2, h3⟩ := compact_spec d hs m (by omega)
    rw [Lib.compactUpTo_succ]
    cases hk : Lib.keeps d m with
    | true =>
      rw [if_pos rfl]
      refine ⟨fun x hx => ?_, fun j hj => ?_, ?_⟩
      · rcases List.mem_append.1 hx with e | e
        · obtain ⟨j, a, b⟩ := h1 x e; exact ⟨j, by omega, b⟩
        · rw [List.mem_singleton] at e; exact ⟨m, by omega, e⟩
      · rcases Nat.lt_succ_iff_lt_or_eq.1 hj with e | e
        · exact List.mem_append.2 (.inl (h2 j e))
        · rw [e]; exact List.mem_append.2 (.inr List.mem_cons_self)
      · refine List.pairwise_append.2 ⟨h3, List.pairwise_singleton _ _, fun x hx y hy => ?_⟩
        rw [List.mem_singleton] at hy; subst hy
        obtain ⟨j, a, b⟩ := h1 x hx
        subst b
        have hne : d[m]! ≠ d[m - 1]! := by
          unfold Lib.keeps at hk
          rw [decide_eq_true_eq] at hk
          rcases hk with e | e
          · omega
          · exact e
        exact by_le_lt (hs j (m - 1) (by omega) (by omega)) (by_lt_of (hs (m - 1) m (by omega) (by omega)) (Ne.symm hne))
    | false =>
      rw [if_neg (by simp), List.append_nil]
      refine ⟨fun x hx => ?_, fun j hj => ?_, h3⟩
      · obtain ⟨j, a, b⟩ := h1 x hx; exact ⟨j, by omega, b⟩
      · rcases Nat.lt_succ_iff_lt_or_eq.1 hj with e | e
        · exact h2 j e
        · subst e
          unfold Lib.keeps at hk
          rw [decide_eq_false_iff_not] at hk
          have h0 : j ≠ 0 := fun e => hk (.inl e)
          have he : d[j]! = d[j - 1]! := Decidable.byContradiction fun e => hk (.inr e)
          rw [he]; exact h2 (j - 1) (by omega)
/-- SORTED, THEN COMPACTED. -/
theorem sorted_compact (zs : List By) : Lib.compact (zs.mergeSort fun x y => decide (x ≤ y)) = riseB zs := by
  obtain ⟨ss, hss⟩ : ∃ ss, ss = zs.mergeSort fun x y => decide (x ≤ y) := ⟨_, rfl⟩
  have hp : ss.Pairwise fun x y => decide (x ≤ y) = true := by
    rw [hss]
    exact List.pairwise_mergeSort (le := fun x y => decide (x ≤ y)) (fun a b c h k => by simp only [decide_eq_true_eq] at *; exact by_trans h k) (fun a b => by simp only [Bool.or_eq_true, decide_eq_true_eq]; exact by_total a b) zs
  have hm : ∀ y, y ∈ ss ↔ y ∈ zs := fun y => by rw [hss]; exact (List.mergeSort_perm zs _).mem_iff
  rw [← hss]
  have hs : ∀ i j, i ≤ j → j < ss.toArray.size → ss.toArray[i]! ≤ ss.toArray[j]! := by
    intro i j hij hj
    have hj : j < ss.length := by simpa using hj
    rw [getElem!_pos ss.toArray i (by simpa using (by omega : i < ss.length)), getElem!_pos ss.toArray j (by simpa using hj)]
    simp only [List.getElem_toArray]
    rcases Nat.lt_or_ge i j with h | h
    · have := List.pairwise_iff_getElem.1 hp i j (by omega) hj h
      simpa using this
    · have : i = j := by omega
      subst this; exact List.le_refl _
  obtain ⟨h1, h2, h3⟩ := compact_spec ss.toArray hs ss.length (by simp)
  refine rise_same _ _ h3 (riseB_rise zs) fun y => ?_
  rw [riseB_mem, ← hm]
  constructor
  · intro h
    obtain ⟨j, a, b⟩ := h1 y h
    rw [b, getElem!_pos ss.toArray j (by simpa using a)]
    simp
  · intro h
    obtain ⟨j, a, b⟩ := List.mem_iff_getElem.1 h
    have := h2 j a
    rw [getElem!_pos ss.toArray j (by simpa using a)] at this
    rw [← b]
    show _ ∈ Lib.compactUpTo ss.toArray ss.length
    simpa using this
end Go.Sh

/- Texts of one's own, sorted and compacted by the library. -/
namespace Go.Sh
open Go Go.Proofs Go.Shelf
set_option linter.unusedVariables false
set_option linter.unusedSimpArgs false

abbrev toB (s : ByteArray) : By := s.data.toList
abbrev ofB (z : By) : ByteArray := ⟨z.toArray⟩
theorem toB_ofB (z : By) : toB (ofB z) = z := by simp [ofB, toB]
theorem map_toB (l : List By) : (l.map ofB).map toB = l := by
  rw [List.map_map]
  have : (fun s => toB (ofB s)) = id := funext toB_ofB
  show l.map (fun s => toB (ofB s)) = l
  rw [this, List.map_id]
theorem map_str (l : List ByteArray) : l.map Value.string = (l.map toB).map encStr := by
  rw [List.map_map]
  refine List.map_congr_left fun s _ => ?_
  show Value.string s = Value.string _
  congr 1

/-- A slice of texts that is one's own. -/
def OwnVal (w : World) (x : Value) (l : List ByteArray) : Prop :=
  (x = .slice none 0 0 ∧ l = []) ∨ ∃ b cap arr T, x = .slice (some ⟨b, 0, none⟩) l.length cap ∧ w.heap[b]? = some (.cells arr T (0, 0)) ∧ arr.size = cap ∧ l.length ≤ cap ∧ arr.toList.take l.length = l.map Value.string
def blockV : Value → Option Nat
  | .slice (some a) _ _ => some a.block
  | _ => none
/-- Nothing turned but this block, and new ones. -/
structure Turned (w w' : World) (p : Option Nat) : Prop where
  os : w'.os = w.os
  tape : w'.tape = w.tape
  output : w'.output = w.output
  size : w.heap.size ≤ w'.heap.size
  same : ∀ k, k < w.heap.size → p ≠ some k → w'.heap[k]? = w.heap[k]?
theorem Turned.trans {w w1 w2 : World} {p : Option Nat} (h : Turned w w1 p) (k : Turned w1 w2 p) : Turned w w2 p :=
  ⟨k.os.trans h.os, k.tape.trans h.tape, k.output.trans h.output, Nat.le_trans h.size k.size, fun j hj hp => (k.same j (Nat.lt_of_lt_of_le hj h.size) hp).trans (h.same j hj hp)⟩
theorem Turned.refl (w : World) (p : Option Nat) : Turned w w p := ⟨rfl, rfl, rfl, Nat.le_refl _, fun _ _ _ => rfl⟩

def sortL (l : List ByteArray) : List ByteArray := ((l.map toB).mergeSort fun x y => decide (x ≤ y)).map ofB
def compactL (l : List ByteArray) : List ByteArray := (Lib.compact (l.map toB)).map ofB
/-- The list that rises, each once. -/
def riseL (l : List ByteArray) : List ByteArray := (riseB (l.map toB)).map ofB
theorem compact_sort (l : List ByteArray) : compactL (sortL l) = riseL l := by
  unfold compactL sortL riseL
  rw [map_toB, sorted_compact]
theorem sortL_len (l : List ByteArray) : (sortL l).length = l.length := by unfold sortL; rw [List.length_map, List.length_mergeSort, List.length_map]
theorem sortL_nil : sortL [] = [] := List.length_eq_zero_iff.1 (sortL_len [])
theorem compact_le (zs : List By) : (Lib.compact zs).length ≤ zs.length := by
  unfold Lib.compact Lib.compactUpTo
  rw [List.length_map]
  exact Nat.le_trans (List.length_filter_le _ _) (by simp)
theorem heap_putRow {w : World} {g q : Nat} {cur : Array Value} {e : TypeId} {fr : Nat × Nat} (d : Array By) (hb : w.heap[g]? = some (.cells cur e fr)) : (Sort.putRow encStr (Sort.ahead w q) g 0 d).heap[g]? = some (.cells (Sort.putCells encStr 0 d cur) e fr) := by
  have := heap_sorted (n := q) (os := #[]) d hb
  simpa [Sort.grow] using this
theorem turned_sorted {w : World} {g n : Nat} {os : Array Obj} (d : Array By) : Turned w (Sort.grow (Sort.putRow encStr (Sort.ahead w n) g 0 d) os) (some g) := by
  obtain ⟨h1, h2, h3, h4, h5⟩ := grownBy_sorted (w := w) (g := g) (n := n) (os := os) d
  exact ⟨h1, h2, h3, h4, fun k hk hp => h5 k hk (fun e => hp (by rw [e]))⟩

variable {P : Program} {ρ : Ren}
/-- slices.Sort of texts of one's own. -/
theorem sortC (L : Lays.n190 P ρ) {w : World} {x : Value} {l : List ByteArray} (h : OwnVal w x l) (hl : l.length < 4611686018427387904) :
    Calls P (ρ.f 190) #[x] w fun e w' => e = .returned (.tuple #[]) ∧ OwnVal w' x (sortL l) ∧ Turned w w' (blockV x) := by
  rcases h with ⟨rfl, rfl⟩ | ⟨b, cap, arr, T, rfl, hb, ha, hc, ht⟩
  · refine (calls_of_every_depth fun D => AnyS.slices_Sort_string_none_alone L D none 0 w).mono ?_
    rintro e w' ⟨rfl, rfl⟩
    exact ⟨rfl, .inl ⟨rfl, sortL_nil⟩, .refl _ _⟩
  · have hH : Sort.Holds encStr w b 0 (l.map toB).toArray := holds_of_block hb (by rw [List.length_map, ht, map_str])
    have := calls_of_every_depth fun D => AnyS.slices_Sort_string_alone L D b 0 cap (l.map toB) w hH (lt_of_heap hb) (by rw [List.length_map]; exact hl)
    rw [List.length_map] at this
    refine this.mono ?_
    rintro e w' ⟨rfl, n, os, rfl⟩
    refine ⟨rfl, .inr ⟨b, cap, _, T, by rw [sortL_len], heap_sorted _ hb, by simp [Sort.putCells, ha], by rw [sortL_len]; exact hc, ?_⟩, turned_sorted _⟩
    have hlen : ((l.map toB).mergeSort fun x y => decide (x ≤ y)).length = l.length := by rw [List.length_mergeSort, List.length_map]
    have := take_putCells arr ((l.map toB).mergeSort fun x y => decide (x ≤ y)) (by rw [hlen, ha]; exact hc)
    rw [hlen] at this
    rw [sortL_len, this, map_str]
    unfold sortL
    rw [map_toB]

/-- slices.Compact of texts of one's own. -/
theorem compactC (L : Lays.n194 P ρ) {w : World} {x : Value} {l : List ByteArray} (h : OwnVal w x l) (hl : l.length < 4611686018427387904) :
    Calls P (ρ.f 194) #[x] w fun e w' => ∃ v, e = .returned v ∧ OwnVal w' v (compactL l) ∧ (∀ k, blockV v = some k → blockV x = some k) ∧ Turned w w' (blockV x) := by
  rcases h with ⟨rfl, rfl⟩ | ⟨b, cap, arr, T, rfl, hb, ha, hc, ht⟩
  · refine (calls_of_every_depth fun D => AnyS.slices_Compact_string_empty_in L D none 0 w).mono ?_
    rintro e w' ⟨rfl, rfl⟩
    exact ⟨_, rfl, .inl ⟨rfl, rfl⟩, fun _ h => h, .refl _ _⟩
  · have hH : Sort.Holds encStr w b 0 (l.map toB).toArray := holds_of_block hb (by rw [List.length_map, ht, map_str])
    have := calls_of_every_depth fun D => AnyS.slices_Compact_string_in L D b 0 cap (l.map toB) w hH (by rw [List.length_map]; omega) (by rw [List.length_map]; exact hc)
    rw [List.length_map] at this
    refine this.mono ?_
    rintro e w' ⟨rfl, q, rfl⟩
    have hle : (Lib.compact (l.map toB)).length ≤ l.length := by have := compact_le (l.map toB); rwa [List.length_map] at this
    have hcl : (compactL l).length = (Lib.compact (l.map toB)).length := by unfold compactL; rw [List.length_map]
    refine ⟨_, rfl, .inr ⟨b, cap, _, T, by rw [hcl], heap_putRow _ hb, by simp [Sort.putCells, ha], by rw [hcl]; omega, ?_⟩, fun _ h => h, ?_⟩
    · have := take_putCells arr (Lib.compact (l.map toB) ++ List.replicate (l.length - (Lib.compact (l.map toB)).length) []) (by simp; omega)
      have h2 := congrArg (List.take (Lib.compact (l.map toB)).length) this
      rw [List.take_take, List.map_append, List.take_left' (by rw [List.length_map]), Nat.min_eq_left (by simp)] at h2
      rw [hcl, h2, map_str]
      unfold compactL
      rw [map_toB]
    · have := turned_sorted (w := w) (g := b) (n := q) (os := #[]) (Lib.compact (l.map toB) ++ List.replicate (l.length - (Lib.compact (l.map toB)).length) []).toArray
      have e : ∀ W : World, Sort.grow W #[] = W := fun W => by unfold Sort.grow; rw [Array.append_empty]
      rw [e] at this
      exact this
end Go.Sh

/- What a function by itself hands out: texts of its own; a range over a function with a tail by hand. -/
namespace Go.Sh
open Go
set_option linter.unusedVariables false
set_option linter.unusedSimpArgs false

theorem flat_str (l : List ByteArray) : (l.map fun s => [AV.lit (.string s)]).flatten = l.map fun s => AV.lit (.string s) := by
  induction l with
  | nil => rfl
  | cons x l ih => rw [List.map_cons, List.flatten_cons, ih]; rfl
theorem rep_strs {S : Nat → Nat} {w : World} {μ : List Nat} : ∀ {l : List ByteArray} {m : List Value}, RepC S w μ (l.map fun s => AV.lit (.string s)) m → m = l.map Value.string
  | [], m, h => by cases h; rfl
  | x :: l, m, h => by
    cases h with
    | cons h o t => cases h with | lit _ => rw [rep_strs t]; rfl
theorem strs_rep {S : Nat → Nat} {w : World} {μ : List Nat} : ∀ (l : List ByteArray), RepC S w μ (l.map fun s => AV.lit (.string s)) (l.map Value.string)
  | [] => .nil
  | x :: l => .cons (.lit rfl) rfl (strs_rep l)

section
variable {P : Program} {d : Nat} {G : Gh} {w w0 : World} {st : St} {a : Act} {o : Oper}

theorem old_none {b : Nat} (f : Fr d (sealAll w0) w0 G w) (hb : b < w0.heap.size) : G.O b = .none := (f.same b hb rfl).2.2

/-- What lies in the heap's cell of one's own texts. -/
theorem own_out (f : Fr d (sealAll w0) w0 G w) {tmps : Array Value} (r : RepSt d G w st tmps) {t i : Nat} (ht : st.s t = .c (.v (.hp i 0))) {l : List ByteArray} (hi : st.h[i]? = some [.own 1 (l.map fun s => [AV.lit (.string s)])]) :
    ∃ bo arr T x, tmps.getD t undef = .pointer (some ⟨bo, 0, none⟩) ∧ w0.heap.size ≤ bo ∧ w.heap[bo]? = some (.cells arr T (0, 0)) ∧ arr[0]? = some x ∧ OwnVal w x l ∧ ∀ b, blockV x = some b → w0.heap.size ≤ b ∧ b ≠ bo := by
  have hs := r.slot t
  rw [ht] at hs
  obtain ⟨bo, arr, T, h1, h2, h3, h4, h5, h6⟩ := heap_get (b := 0) r.heap hs hi (by simp)
  obtain ⟨x, e1, e2, e3⟩ := h6.get (i := 0) rfl
  refine ⟨bo, arr, T, x, h1, ?_, h4, e1, ?_⟩
  · rcases Nat.lt_or_ge bo w0.heap.size with hb | hb
    · rw [old_none f hb] at h3; cases h3
    · exact hb
  · rcases e2 with ⟨rfl, hl⟩ | ⟨b, cap, arr2, T2, rfl, k1, k2, k3, k4, k5, k6, k7⟩
    · refine ⟨.inl ⟨rfl, by simpa using hl⟩, fun b hb => by cases hb⟩
    · rw [flat_str] at k6
      refine ⟨.inr ⟨b, cap, arr2, T2, by rw [List.length_map], k2, by rw [k3, Nat.mul_one], by simpa using k4, ?_⟩, fun c hc => ?_⟩
      · have := rep_strs k6
        simpa using this
      · cases hc
        refine ⟨?_, fun e => ?_⟩
        · rcases Nat.lt_or_ge b w0.heap.size with hb | hb
          · rw [old_none f hb] at k1; cases k1
          · exact hb
        · subst e; rw [h3] at k1; cases k1

theorem lone_end2 (h1 : w.os = w0.os) (h2 : w.tape = w0.tape) (h3 : w.output = w0.output) (h4 : w0.heap.size ≤ w.heap.size) (h5 : ∀ b, b < w0.heap.size → w.heap[b]? = w0.heap[b]?) {w' : World} {p : Option Nat} (t : Turned w w' p) (hp : ∀ b, p = some b → w0.heap.size ≤ b) {v : Value} {m : List ByteArray} (hv : OwnVal w' v m) (hb : ∀ b, blockV v = some b → w0.heap.size ≤ b) :
    LoneEnd w0 (.sl 1 (m.map fun s => [AV.lit (.string s)])) (.returned v) w' := by
  refine ⟨v, rfl, t.os.trans h1, t.tape.trans h2, t.output.trans h3, Nat.le_trans h4 t.size, fun b hb => ?_, ?_⟩
  · rw [t.same b (Nat.lt_of_lt_of_le hb h4) (fun e => by have := hp b e; omega)]
    exact h5 b hb
  · rcases hv with ⟨rfl, rfl⟩ | ⟨b, cap, arr, T, rfl, q1, q2, q3, q4⟩
    · exact .slN 1
    · have hbb := hb b rfl
      have e : (m.map fun s => [AV.lit (.string s)]).flatten.length = m.length := by rw [flat_str, List.length_map]
      have hr := RepA.sl (S := fresh w0 w') (w := w') (μ := []) (n := 1) (es := m.map fun s => [AV.lit (.string s)]) (b := b) (o := 0) (cap := cap) (vals := m.map Value.string) (by rw [List.length_map]; exact q3)
        (by
          unfold row?
          rw [q1, e]
          simp only [Nat.zero_add]
          rw [if_pos (by omega), List.drop_zero, q4]) (by rw [flat_str]; exact strs_rep m)
        (by
          rw [e]
          unfold fresh
          rw [if_neg (by omega)]
          show 0 + m.length ≤ match w'.heap[b]? with | some (.cells arr _ _) => arr.size | _ => 0
          rw [q1]
          show 0 + m.length ≤ arr.size
          omega)
        (by intro x hx; obtain ⟨s, _, rfl⟩ := List.mem_map.1 hx; rfl)
      rw [List.length_map] at hr
      exact hr

theorem lone_end (f : Fr d (sealAll w0) w0 G w) {w' : World} {p : Option Nat} (t : Turned w w' p) (hp : ∀ b, p = some b → w0.heap.size ≤ b) {v : Value} {m : List ByteArray} (hv : OwnVal w' v m) (hb : ∀ b, blockV v = some b → w0.heap.size ≤ b) :
    LoneEnd w0 (.sl 1 (m.map fun s => [AV.lit (.string s)])) (.returned v) w' := lone_end2 f.os f.tape f.output f.size (fun b hb => (f.same b hb rfl).1) t hp hv hb

/-- A load of one cell. -/
theorem run_load1 {T : TypeId} {i : TI} (ht : TyOk P T i) (hagg : i.agg = false) {x : Operand} (ho : o.op = .load T x) {b off : Nat} (hx : a.eval x = .pointer (some ⟨b, off, none⟩)) {arr : Array Value} {Te : TypeId} {fz : Nat × Nat} (hh : w.heap[b]? = some (.cells arr Te fz)) {X : Value} (hX : arr[off]? = some X) :
    (execOp a.eval o).run P w = .ok (.value X) w := by
  have hc : w.cell? ⟨b, off, none⟩ = some X := by
    simp only [World.cell?, hh]
    simpa using hX
  unfold execOp
  rw [ho]
  simp only [hx, Sem.run_bind, Instr.loadAt, Instr.sureAddr, Sem.run_pure, Result.andThen_ok, loadVar, ht.isAgg w, hagg]
  simp [hc]
theorem run_assign {x : Operand} (ho : o.op = .assign x) : (execOp a.eval o).run P w = .ok (.value (a.eval x)) w := by unfold execOp; rw [ho]; rfl
end

section
variable {E : Env} {H : FHint} {call : Nat → List AV → Heap → R}
/-- A FUNCTION THAT RANGES OVER A FUNCTION, its rounds by their shadow, what follows by hand. -/
theorem range_fnT (ok : E.Ok) (hs : SoundC E.P call) {f : Nat} {fn : Func} (hfn : E.P.funcs[f]? = some fn) {n bi g p : Nat} {A A2 B assign body rest : Code} (hbody : fn.body = some (.seq A (.seq A2 (.seq (.seq B (.block bi (.rangeFunc (.tmp g) #[p] assign body))) rest))))
    {args : List AV} {h : Heap} (hle : args.length ≤ fn.ntmps) (LA : List Nat) {lA : List (Nat × Slot)} {hA : Heap} (kA : evC E H fn.ntmps call n A 0 { s := lkS (argSlots 0 args), h := h } (kL LA) kN = some (lA, hA))
    (L2 : List Nat) {l2 : List (Nat × Slot)} {hA2 : Heap} (kA2 : evC E H fn.ntmps call n A2 0 { s := lkS lA, h := hA } (kL L2) kN = some (l2, hA2))
    (LB : List Nat) {lB : List (Nat × Slot)} {hB : Heap} (kB : evC E H fn.ntmps call n B 0 { s := lkS l2, h := hA2 } (kL LB) kN = some (lB, hB)) {L : List (Nat × Slot)} (hL : (L.all fun p => freeS p.2) = true) (hp : p < fn.ntmps) {gf : Nat} {caps xs : List AV} (hg : lkS lB g = .c (.v (.fn gf [] caps)))
    (hsl : ∀ i, lkS L i = .dead ∨ lkS L i = lkS lB i) (hnp : (lB.all fun q => match q.2 with | .path _ _ => false | _ => true) = true) (it : IterC E.P gf caps xs hB) {h1 : Heap} (hfold : foldR (roundE E H fn.ntmps call n (lkS L) p assign body) xs hB = some (none, h1))
    {d : Nat} {G : Gh} {w : World} {argv : Array Value} (hr : RepL G.S w G.μ args argv.toList) (hh : RepHeap G w h) (hw : Within G w) {R : Ending → World → Prop}
    (tail : ∀ (D : Nat) (G3 : Gh) (w3 : World) (a3 : Act), w3.heap[D]? = some (.deferred (some [])) → w.heap.size ≤ D → RepSt d G3 w3 { s := lkS lB, h := h1 } a3.tmps → a3.tmps.size = fn.ntmps → Fr d G w G3 w3 → a3.defers = [{ target := .collected D, args := #[] }] →
      rest.wpIn (FF none) 0 E.P (bodyPostM (FF none) 0 E.P fn R) a3 w3) : Calls E.P f argv w R := by
  refine (callsIn_wide (n := 0)).1 ?_
  refine callsIn_of_wp_marks (F := FF none) hfn hbody trivial ?_
  have hal : argv.size = args.length := by simpa using hr.length.symm
  have hat : AtSt d fn.ntmps G w { s := lkS (argSlots 0 args), h := h } { tmps := argv ++ Array.replicate (fn.ntmps - argv.size) undef, defers := [] } w := by
    refine ⟨G, ⟨fun i => ?_, fun u t off hu => ?_, hh, hw⟩, by simp; omega, Fr.refl d G w⟩
    · rcases lkS_spec (argSlots 0 args) i with e | e
      · show RepSlot _ _ _ _ (lkS _ _) _
        rw [e]; trivial
      · refine argSlots_spec args 0 argv.toList hr (fun j x hj => ?_) _ e
        have hj' : j < argv.size := by simpa using (List.getElem?_eq_some_iff.1 hj).1
        rw [Nat.zero_add, Array.getD_eq_getD_getElem?, Array.getElem?_append_left hj', ← Array.getElem?_toList, hj]; rfl
    · exfalso
      have hu : lkS (argSlots 0 args) u = .path t off := hu
      have hno : ∀ (l : List AV) (k : Nat) (q : Nat × Slot), q ∈ argSlots k l → ∃ x, q.2 = .c (.v x) := by
        intro l
        induction l with
        | nil => intro k q hq; cases hq
        | cons x l ih =>
          intro k q hq
          rcases List.mem_cons.1 hq with e | e
          · exact ⟨x, by rw [e]⟩
          · exact ih _ q e
      rcases lkS_spec (argSlots 0 args) u with e | e
      · rw [e] at hu; cases hu
      · rw [hu] at e; obtain ⟨x, hx⟩ := hno _ _ _ e; cases hx
  refine wpIn_seq (seg_keep (H := H) ok hs LA kA hat rfl fun a1 w1 hat1 hd1 => ?_)
  refine wpIn_seq (seg_keep (H := H) ok hs L2 kA2 hat1 hd1 fun a1 w1 hat1 hd1 => ?_)
  refine wpIn_seq (wpIn_seq (seg_keep (H := H) ok hs LB kB hat1 hd1 fun a2 w2 hat2 hd2 => ?_))
  refine wpIn_block ?_
  have hnp' : ∀ i t off, lkS lB i ≠ .path t off := fun i t off e => by
    rcases lkS_spec lB i with e1 | e1
    · rw [e1] at e; cases e
    · rw [e] at e1
      have := List.all_eq_true.1 hnp _ e1
      cases this
  refine range_ok (H := H) (n := n) ok hs hL hp hg hsl it hfold hat2 hnp' fun D G3 w3 hge hO hD r3 n3 f3 => ?_
  exact tail D G3 w3 _ hD hge r3 n3 f3 (by show _ :: a2.defers = _; rw [hd2])
end
end Go.Sh

/- A map that the function by itself has made: steps by hand. -/
namespace Go.Sh
set_option linter.unusedVariables false
set_option linter.unusedSimpArgs false
open Go

section
variable {d : Nat} {G G0 : Gh} {w w' w0 : World} {st : St} {a : Act} {o : Oper} {ops : Array Oper} {nt nn : Nat} {P : Program}

def NoCells (w : World) (b : Nat) : Prop := ∀ arr T fz, w.heap[b]? ≠ some (.cells arr T fz)
theorem row_grown {b c s m : Nat} {vals : List Value} (g : w.grownBy w' (some b)) (hn : NoCells w b) (hr : row? w c s m = some vals) : row? w' c s m = some vals := by
  have hr0 := hr
  unfold row? at hr
  split at hr
  · rename_i arr T fz h1
    have hb : c ≠ b := fun e => hn arr T fz (by rw [← e]; exact h1)
    rw [row_of_same (g.block c (lt_of_heap h1) (fun e => hb (Option.some.inj e)))]
    exact hr0
  · cases hr
theorem ext_grown {b : Nat} {S : Nat → Nat} {μ : List Nat} (g : w.grownBy w' (some b)) (hn : NoCells w b) : Ext S w μ S w' μ :=
  ⟨fun _ => Nat.le_refl _, fun c s m vals _ hr => row_grown g hn hr, fun _ _ h => h, fun c => szB_le fun arr T fz e => by
    have hb : c ≠ b := fun e' => hn arr T fz (by rw [← e']; exact e)
    exact ⟨arr, T, fz, (g.block c (lt_of_heap e) (fun e => hb (Option.some.inj e))).trans e, Nat.le_refl _⟩⟩
theorem same_grown {b : Nat} (g : w.grownBy w' (some b)) {c : Nat} (hc : c < w.heap.size) (h : c ≠ b) : SameB G w G w' c := ⟨g.block c hc (fun e => h (Option.some.inj e)), rfl, rfl⟩
theorem st_grown {b : Nat} (g : w.grownBy w' (some b)) (hn : NoCells w b) (ho : G.O b = .none) {tmps : Array Value} (r : RepSt d G w st tmps) : RepSt d G w' st tmps :=
  ⟨fun i => (r.slot i).mono' (ext_grown g hn) (fun c hc hb => same_grown g hc (fun e => by rw [e, ho] at hb; cases hb)) (fun c b hc hb => same_grown g hc (fun e => by rw [e, ho] at hb; cases hb)), r.path,
   r.heap.mono' (ext_grown g hn) rfl (fun i c hc hb => same_grown g hc (fun e => by rw [e, ho] at hb; cases hb)) (fun i c b hc hb => same_grown g hc (fun e => by rw [e, ho] at hb; cases hb)), fun c hc => by
    obtain ⟨arr, T, fz, h1, h2⟩ := r.within c hc
    have hne : c ≠ b := fun e => hn arr T fz (by rw [← e]; exact h1)
    exact ⟨arr, T, fz, (g.block c (lt_of_heap h1) (fun e => hne (Option.some.inj e))).trans h1, h2⟩⟩
theorem Fr.grown {b : Nat} (f : Fr d G0 w0 G w) (hl : w0.heap.size ≤ b) (g : w.grownBy w' (some b)) (hn : NoCells w b) : Fr d G0 w0 G w' := by
  refine ⟨g.os.trans f.os, g.tape.trans f.tape, g.output.trans f.output, Nat.le_trans f.size g.size, ⟨f.ext.le, fun c s m vals hs hr => row_grown g hn (f.ext.row c s m vals hs hr), f.ext.mu, fun c => Nat.le_trans (f.ext.sz c) ((ext_grown (S := G.S) (μ := G.μ) g hn).sz c)⟩, fun c hb hq => ?_⟩
  obtain ⟨b1, b2, b3⟩ := f.same c hb hq
  exact ⟨(g.block c (Nat.lt_of_lt_of_le hb f.size) (fun e => by have := Option.some.inj e; omega)).trans b1, b2, b3⟩

/-- A step that yields nothing, in a world that has turned where nothing is told of. -/
theorem step_none {i : Nat} {G' : Gh} {w' : World} (hi : ops[i]? = some o) (hg : o.guard = none) (hdt : o.dst = none) (hnd : ∀ c, o.op ≠ .defer c)
    (hrun : (execOp a.eval o).run P w = .ok .skip w') (r : RepSt d G' w' st a.tmps) {K : Act → World → Prop} {Q : Exit → Act → World → Prop}
    (hK : ∀ a', RepSt d G' w' st a'.tmps → a'.tmps.size = a.tmps.size → a'.defers = a.defers → K a' w') : wpOpIn (FF none) nn P ops Q i K a w := by
  unfold wpOpIn
  rw [hi]
  simp only [Region.wanted, hg, if_true]
  refine wp_in none hnd ?_
  unfold Oper.wp
  rw [hrun, Oper.upon_skip, hdt]
  exact hK _ r rfl rfl

/-- m[k], by the name of what the map tells. -/
theorem run_lookup {H : Type} {t k e : TypeId} {q : IntKind} {b n : Nat} {D : DataW H} {x y : Operand} (ho : o.op = .lookup t x y false) (h : w.ownsMap P k (plainElem P e) b n D) (K : Maps.Keyed P k) (ht : P.underlying t = some (.map k e)) (he : P.underlying e = some (.int q)) (hz : (zeroValue e).run P w = .ok (.int q 0) w)
    {key : Value} {kl : Lit} (hkey : keyOf P k key = some kl) (hx : a.eval x = .map (some b)) (hy : a.eval y = key) : ∃ c, (execOp a.eval o).run P w = .ok (.value (.int q c)) w ∧ D.atKey kl (.lit (.int q 0)) = .lit (.int q c) := by
  obtain ⟨c, h1, h2, _⟩ := h.lookup_int K ht he hz hkey
  refine ⟨c, ?_, h2⟩
  unfold execOp
  rw [ho]
  simp only [hx, hy]
  show Sem.run P (_ >>= _) w = _
  rw [Sem.run_bind]
  rw [show Sem.run P (Instr.lookup t (.map (some b)) key false) w = _ from h1]
  rfl
theorem run_update {H : Type} {t k e : TypeId} {q : IntKind} {b n : Nat} {D : DataW H} {x y z : Operand} (ho : o.op = .mapUpdate t x y z) (h : w.ownsMap P k (plainElem P e) b n D) (K : Maps.Keyed P k) (ht : P.underlying t = some (.map k e)) (he : P.underlying e = some (.int q)) (hn : n < maxLen)
    {key : Value} {kl : Lit} (hkey : keyOf P k key = some kl) {c : Int} (hc : (Lit.int q c).wf = true) (hx : a.eval x = .map (some b)) (hy : a.eval y = key) (hz : a.eval z = .int q c) :
    ∃ w', (execOp a.eval o).run P w = .ok .skip w' ∧ w'.ownsMap P k (plainElem P e) b (n + 1) (D.put kl (.lit (.int q c))) ∧ w.grownBy w' (some b) := by
  obtain ⟨w', h1, h2, h3⟩ := h.update (val := .int q c) K ht hn hkey (plainElem_int he hc)
  refine ⟨w', ?_, h2, h3⟩
  unfold execOp
  rw [ho]
  simp only [hx, hy, hz]
  show Sem.run P (_ >>= _) w = _
  rw [Sem.run_bind]
  rw [show Sem.run P (Instr.mapUpdate t (.map (some b)) key (.int q c)) w = _ from h1]
  rfl
theorem run_makeMap' {t : TypeId} (ho : o.op = .makeMap t none) : (execOp a.eval o).run P w = .ok (.value (.map (some w.heap.size))) (w.alloc (.map #[] 0)) := by
  unfold execOp
  rw [ho]
  rfl
theorem ownsMap_noCells {H : Type} {k : TypeId} {R : Value → Option (DataW H × List MemPlace)} {b n : Nat} {D : DataW H} (h : w.ownsMap P k R b n D) : NoCells w b := by
  obtain ⟨es, clock, h1, _⟩ := h
  intro arr T fz e
  rw [h1] at e; cases e
theorem ownsMap_same {H : Type} {k : TypeId} {R : Value → Option (DataW H × List MemPlace)} {b n : Nat} {D : DataW H} (h : w.ownsMap P k R b n D) (e : w'.heap[b]? = w.heap[b]?) : w'.ownsMap P k R b n D := by
  obtain ⟨es, clock, h1, h2⟩ := h
  exact ⟨es, clock, e.trans h1, h2⟩
end

section
variable {E : Env} {H : FHint} {d : Nat} {G : Gh} {w : World} {st : St} {a : Act} {o : Oper} {ops : Array Oper} {nt nn : Nat} {ro : Option Nat} {D : List Deferred} {call : Nat → List AV → Heap → R}
/-- Some steps of a region, by their shadow; these slots are told on. -/
theorem ops_keep (ok : E.Ok) (hs : SoundC E.P call) {G0 : Gh} {w0 : World} {rest : List Nat} {Q : Exit → Act → World → Prop} (L : List Nat) {ls : List (Nat × Slot)} {h' : Heap}
    (hQ : ∀ a' w', AtSt d nt G0 w0 { s := lkS ls, h := h' } a' w' → a'.defers = D → wpOpsIn (FF ro) nn E.P ops Q rest a' w') :
    ∀ (l : List (Nat × Oper)) (st : St) (a : Act) (w : World), (∀ p ∈ l, ops[p.1]? = some p.2) → opsK E H nt call ops l st (kLs L) kN = some (ls, h') → AtSt d nt G0 w0 st a w → a.defers = D →
      wpOpsIn (FF ro) nn E.P ops Q (l.map Prod.fst ++ rest) a w
  | [], st, a, w, _, h, hat, hd => by
    have h := Option.some.inj h
    have e1 := (Prod.mk.inj h).1; have e2 := (Prod.mk.inj h).2
    subst e1; subst e2
    exact hQ a w (AtSt.keep (some L) hat) hd
  | (i, o) :: l, st, a, w, hl, h, hat, hd => by
    rw [List.map_cons, List.cons_append, wpOpsIn_cons]
    unfold opsK at h
    rw [step_bind, Option.bind_eq_some_iff] at h
    obtain ⟨sr, hsr, h⟩ := h
    obtain ⟨G, r, hnt, hf⟩ := hat
    have hstep := step_ok (ro := ro) (nn := nn) ok hs (hl _ List.mem_cons_self) hnt r hsr
    cases sr with
    | inl st' =>
      refine hstep.1 st' rfl _ _ fun a' G' w' r' hnt' hd' hf' => ?_
      exact ops_keep ok hs L hQ l st' a' w' (fun p hp => hl p (List.mem_cons_of_mem _ hp)) h ⟨G', r', hnt', hf.trans hf'⟩ (hd'.trans hd)
    | inr p => cases h

/-- .. while a map of its own lies there. -/
def AtM (P : Program) (k e : TypeId) (q n : Nat) (X : DataW Unit) (d nt : Nat) (G0 : Gh) (w0 : World) (st : St) (a : Act) (w : World) : Prop :=
  ∃ G, RepSt d G w st a.tmps ∧ a.tmps.size = nt ∧ Fr d G0 w0 G w ∧ G.O q = .none ∧ w.ownsMap P k (plainElem P e) q n X
theorem AtM.at {P : Program} {k e : TypeId} {q n : Nat} {X : DataW Unit} {G0 : Gh} {w0 : World} (h : AtM P k e q n X d nt G0 w0 st a w) : AtSt d nt G0 w0 st a w := by
  obtain ⟨G, h1, h2, h3, _⟩ := h
  exact ⟨G, h1, h2, h3⟩
theorem AtM.to {P : Program} {k e : TypeId} {q n : Nat} {X : DataW Unit} {G0 G : Gh} {w0 w' : World} {st' : St} {a' : Act} (ho : G.O q = .none) (hm : w.ownsMap P k (plainElem P e) q n X) (hf : Fr d G0 w0 G w) (h : AtSt d nt G w st' a' w') : AtM P k e q n X d nt G0 w0 st' a' w' := by
  obtain ⟨G', r, hn, f⟩ := h
  obtain ⟨s1, s2, s3⟩ := f.same q hm.lt (by rw [ho]; rfl)
  exact ⟨G', r, hn, hf.trans f, s3.trans ho, ownsMap_same hm s1⟩
theorem seg_map (ok : E.Ok) (hs : SoundC E.P call) {P : Program} {k e : TypeId} {q m : Nat} {X : DataW Unit} {n bi : Nat} {G0 : Gh} {w0 : World} {c : Code} {Q : Exit → Act → World → Prop} (L : List Nat) {l : List (Nat × Slot)} {h' : Heap} (h : evC E H nt call n c bi st (kL L) kN = some (l, h')) (hat : AtM P k e q m X d nt G0 w0 st a w) (hd : a.defers = D)
    (hQ : ∀ a' w', AtM P k e q m X d nt G0 w0 { s := lkS l, h := h' } a' w' → a'.defers = D → Q .normal a' w') : c.wpIn (FF ro) nn E.P Q a w := by
  obtain ⟨G, r, hn, hf, ho, hm⟩ := hat
  exact seg_keep ok hs L h ⟨G, r, hn, Fr.refl d G w⟩ hd fun a' w' h1 h2 => hQ a' w' (AtM.to ho hm hf h1) h2
theorem ops_map (ok : E.Ok) (hs : SoundC E.P call) {P : Program} {k e : TypeId} {q m : Nat} {X : DataW Unit} {G0 : Gh} {w0 : World} {rest : List Nat} {Q : Exit → Act → World → Prop} (L : List Nat) {ls : List (Nat × Slot)} {h' : Heap} (l : List (Nat × Oper))
    (h : opsK E H nt call ops l st (kLs L) kN = some (ls, h')) (hl : ∀ p ∈ l, ops[p.1]? = some p.2) (hat : AtM P k e q m X d nt G0 w0 st a w) (hd : a.defers = D)
    (hQ : ∀ a' w', AtM P k e q m X d nt G0 w0 { s := lkS ls, h := h' } a' w' → a'.defers = D → wpOpsIn (FF ro) nn E.P ops Q rest a' w') : wpOpsIn (FF ro) nn E.P ops Q (l.map Prod.fst ++ rest) a w := by
  obtain ⟨G, r, hn, hf, ho, hm⟩ := hat
  exact ops_keep ok hs L (fun a' w' h1 h2 => hQ a' w' (AtM.to ho hm hf h1) h2) l st a w hl h ⟨G, r, hn, Fr.refl d G w⟩ hd
/-- m[k] as a step. -/
theorem step_look {P : Program} {k e t u : TypeId} {q m i : Nat} {X : DataW Unit} {G0 : Gh} {w0 : World} {x y : Operand} {qk : IntKind} (hi : ops[i]? = some o) (hg : o.guard = none) (hdt : o.dst = some t) (ht : t < nt) (hpb : st.pb t = false) (ho : o.op = .lookup u x y false)
    (hat : AtM P k e q m X d nt G0 w0 st a w) (K : Maps.Keyed P k) (hu : P.underlying u = some (.map k e)) (he : P.underlying e = some (.int qk)) (hz : (zeroValue e).run P w = .ok (.int qk 0) w)
    {key : Value} {kl : Lit} (hkey : keyOf P k key = some kl) (hx : a.eval x = .map (some q)) (hy : a.eval y = key) {c : Int} (hc : X.atKey kl (.lit (.int qk 0)) = .lit (.int qk c)) {K' : Act → World → Prop} {Q : Exit → Act → World → Prop}
    (hK : ∀ a', AtM P k e q m X d nt G0 w0 { s := upd st.s t (.c (.v (.lit (.int qk c)))), h := st.h, pb := st.pb } a' w → a'.defers = a.defers → K' a' w) : wpOpIn (FF none) nn P ops Q i K' a w := by
  obtain ⟨G, r, hn, hf, hoo, hm⟩ := hat
  obtain ⟨c', hrun, hc'⟩ := run_lookup (o := o) (a := a) ho hm K hu he hz hkey hx hy
  rw [hc] at hc'
  cases hc'
  exact step_value (nt := nt) hi hg hdt (fun c h => by rw [ho] at h; cases h) ht hpb hn hrun r (.lit rfl) fun a' r' n' d' => hK a' ⟨G, r', n', hf, hoo, hm⟩ d'
/-- m[k] = c as a step. -/
theorem step_update {P : Program} {k e u : TypeId} {q m i : Nat} {X : DataW Unit} {G0 : Gh} {w0 : World} {x y z : Operand} {qk : IntKind} (hi : ops[i]? = some o) (hg : o.guard = none) (hdt : o.dst = none) (ho : o.op = .mapUpdate u x y z)
    (hat : AtM P k e q m X d nt G0 w0 st a w) (hl : w0.heap.size ≤ q) (K : Maps.Keyed P k) (hu : P.underlying u = some (.map k e)) (he : P.underlying e = some (.int qk)) (hm' : m < maxLen)
    {key : Value} {kl : Lit} (hkey : keyOf P k key = some kl) {c : Int} (hc : (Lit.int qk c).wf = true) (hx : a.eval x = .map (some q)) (hy : a.eval y = key) (hz : a.eval z = .int qk c) {K' : Act → World → Prop} {Q : Exit → Act → World → Prop}
    (hK : ∀ a' w', AtM P k e q (m + 1) (X.put kl (.lit (.int qk c))) d nt G0 w0 st a' w' → a'.defers = a.defers → K' a' w') : wpOpIn (FF none) nn P ops Q i K' a w := by
  obtain ⟨G, r, hn, hf, hoo, hm⟩ := hat
  obtain ⟨w', hrun, h2, h3⟩ := run_update (o := o) (a := a) ho hm K hu he hm' hkey hc hx hy hz
  exact step_none hi hg hdt (fun c h => by rw [ho] at h; cases h) hrun (st_grown h3 (ownsMap_noCells hm) hoo r) fun a' r' n' d' => hK a' w' ⟨G, r', n'.trans hn, hf.grown hl h3 (ownsMap_noCells hm), hoo, h2⟩ d'
/-- make(map) as a step. -/
theorem step_make {P : Program} {k e t u : TypeId} {i : Nat} {G0 : Gh} {w0 : World} (hi : ops[i]? = some o) (hg : o.guard = none) (hdt : o.dst = some t) (ht : t < nt) (hpb : st.pb t = false) (ho : o.op = .makeMap u none)
    (hat : AtSt d nt G0 w0 st a w) {K' : Act → World → Prop} {Q : Exit → Act → World → Prop}
    (hK : ∀ a' w' q, w0.heap.size ≤ q → AtM P k e q 0 (.map []) d nt G0 w0 { s := upd st.s t (.c (.v (.lit (.map (some q))))), h := st.h, pb := st.pb } a' w' → a'.defers = a.defers → K' a' w') : wpOpIn (FF none) nn P ops Q i K' a w := by
  obtain ⟨G, r, hn, hf⟩ := hat
  obtain ⟨ra, fa⟩ := st_alloc (.map #[] 0) r
  exact step_value (nt := nt) hi hg hdt (fun c h => by rw [ho] at h; cases h) ht hpb hn (run_makeMap' ho) ra (.lit rfl) fun a' r' n' d' =>
    hK a' _ w.heap.size hf.size ⟨_, r', n', hf.trans fa, setO_self, World.ownsMap_made w P k _⟩ d'
end
end Go.Sh
