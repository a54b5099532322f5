/- ShB: part of the proof: a shadow of the machine that is proved sound, and what the functions of this seat compute. Conditions: none. -/
import Derived.Test.YtbnilhjddpmodaaGreatDoorShA
import Derived.Laws.MakeOwn
import Derived.OrdersIn
import Derived.TacticsIn
import Derived.LoopNIn
import GoSem.ClaimChange
import Derived.KernelRfl
import Derived.WalkKit
import Derived.ProofKit
import Derived.OpenShut
import Derived.ShutString
import Derived.ChangeOld
import Derived.Below
import Derived.JoinedCond
import Derived.WideShapes
set_option linter.unusedSimpArgs false
/- Literals. -/
namespace Go.Sh
open Go
set_option linter.unusedVariables false

section
variable {ρ : Type} {E : Env} {H : FHint} {call : Nat → List AV → Heap → R} {d : Nat} {G : Gh} {w : World} {st : St} {a : Act} {o : Oper} {look : Nat → Slot} {h0 h' : Heap} {us : List (Nat × Slot)}

theorem splice_free {cs l new : List Cell} {off : Nat} (h : splice cs off l = some new) (hc : cs.all Cell.free = true) (hl : l.all Cell.free = true) : new.all Cell.free = true := by
  unfold splice at h
  obtain ⟨_, h⟩ := condE h
  have h := Option.some.inj h; subst h
  simp only [List.all_append, Bool.and_eq_true]
  rw [List.all_eq_true] at hc
  refine ⟨⟨List.all_eq_true.2 fun x hx => hc x (List.mem_of_mem_take hx), hl⟩, List.all_eq_true.2 fun x hx => hc x (List.mem_of_mem_drop hx)⟩

theorem fill_cons {place : Nat → Option (Nat × Nat)} {cells : Array Value} {i off n : Nat} {v : Value} {rest : List (Nat × Value)} (hp : place i = some (off, n)) (hn : v.cells.size = n) (hle : off + v.cells.size ≤ cells.size) :
    ∃ arr', Instr.fill place cells ((i, v) :: rest) = Instr.fill place arr' rest ∧ arr'.toList = spliceV cells.toList off v.cells.toList ∧ arr'.size = cells.size := by
  obtain ⟨h1, h2⟩ := Great.foldl_set off v.cells.toList 0 cells
  refine ⟨(v.cells.toList.zipIdx 0).foldl (fun cs (x : Value × Nat) => cs.setIfInBounds (off + x.2) x.1) cells, ?_, ?_, h1⟩
  · conv => lhs; unfold Instr.fill
    simp only [hp]
    rw [if_neg (by simp only [hn, ne_eq, not_true, decide_false, Bool.false_or, decide_eq_true_eq]; omega)]
    congr 1
    rw [← Array.foldl_toList]
    congr 1
    simp
  · refine List.ext_getElem? fun k => ?_
    have e := h2 k
    rw [Array.getElem?_toList, e, spliceV_get (by simpa using hle)]
    simp only [Nat.add_zero]
    by_cases hk : k < off
    · rw [if_neg (by omega), if_pos hk]; simp
    · rw [if_neg hk]
      by_cases hk2 : k < off + v.cells.toList.length
      · rw [if_pos hk2, if_pos ⟨by omega, hk2, by simp at hk2; omega⟩]
      · rw [if_neg hk2, if_neg (by omega)]; simp

theorem parts_rep {place : Nat → Option (Nat × TypeId)} {placeR : Nat → Option (Nat × Nat)} (hpl : ∀ j off T i, place j = some (off, T) → E.ty T = some i → placeR j = some (off, i.size)) (hl : LookOk G w d look a.tmps) {K : List Cell → Option ρ} {res : ρ} :
    ∀ (parts : List (Nat × Operand)) (cs : List Cell) (arr : Array Value), cs.all Cell.free = true → RepBox G w (fun _ => .none) cs arr → partsK E place look parts cs K = some res →
    ∃ cs' arr', K cs' = some res ∧ Instr.fill placeR arr (parts.map fun p => (p.1, a.eval p.2)) = some arr' ∧ cs'.all Cell.free = true ∧ RepBox G w (fun _ => .none) cs' arr' ∧ cs'.length = cs.length
  | [], cs, arr, hf, hb, h => ⟨cs, arr, h, rfl, hf, hb, rfl⟩
  | (j, x) :: r, cs, arr, hf, hb, h => by
    unfold partsK at h
    rw [Option.bind_eq_some_iff] at h; obtain ⟨p, hp, h⟩ := h
    rw [Option.bind_eq_some_iff] at h; obtain ⟨i, hi, h⟩ := h
    rw [Option.bind_eq_some_iff] at h; obtain ⟨s, hs, h⟩ := h
    obtain ⟨k, hrs, -⟩ := rdS_rep hl hs
    have key : ∀ (l : List Cell) (cs1 : List Cell), splice cs p.1 l = some cs1 → l.all Cell.free = true → RepBox G w (fun _ => .none) l (a.eval x).cells → (a.eval x).cells.size = i.size → partsK E place look r cs1 K = some res →
        ∃ cs' arr', K cs' = some res ∧ Instr.fill placeR arr (((j, x) :: r).map fun p => (p.1, a.eval p.2)) = some arr' ∧ cs'.all Cell.free = true ∧ RepBox G w (fun _ => .none) cs' arr' ∧ cs'.length = cs.length := by
      intro l cs1 h1 h2 h3 h4 h5
      obtain ⟨g1, g2, _⟩ := splice_get h1
      have hll : l.length = (a.eval x).cells.size := h3.1
      have hcl : cs.length = arr.size := hb.1
      obtain ⟨arr1, e1, e2, e3⟩ := fill_cons (rest := r.map fun p => (p.1, a.eval p.2)) (hpl j p.1 p.2 i hp hi) h4 (cells := arr) (by omega)
      have hb1 := box_splice (Ext.refl _ _ _) hb h1 h3 e2 (fun _ _ _ _ _ => ⟨rfl, rfl, rfl⟩)
      obtain ⟨cs', arr', f1, f2, f3, f4, f5⟩ := parts_rep hpl hl r cs1 arr1 (splice_free h1 hf h2) hb1 h5
      refine ⟨cs', arr', f1, ?_, f3, f4, f5.trans g2⟩
      rw [List.map_cons, e1, f2]
    split at h
    · rename_i n
      rw [Option.bind_eq_some_iff] at h; obtain ⟨cs1, h1, h⟩ := h
      cases hagg : i.agg || !Nat.beq i.size 1 with
      | true => rw [hagg] at h; cases h
      | false =>
        rw [hagg] at h
        have hsz : i.size = 1 := by
          cases e : Nat.beq i.size 1 with
          | true => exact beqE e
          | false => rw [e] at hagg; simp at hagg
        have hv : a.eval x = .slice none 0 0 := hrs
        refine key [.nil n] cs1 h1 rfl ?_ ?_ h
        · rw [hv]
          refine ⟨rfl, fun j c hj => ?_⟩
          cases j with
          | zero => simp at hj; subst hj; exact ⟨_, rfl, rfl, rfl⟩
          | succ j => simp at hj
        · rw [hv, hsz]; rfl
    · rw [Option.bind_eq_some_iff] at h; obtain ⟨v, hv, h⟩ := h
      obtain ⟨l, h1, h2, h3, h4, h5⟩ := explode_rep h (hrs.av hv)
      rw [Option.bind_eq_some_iff] at h1; obtain ⟨cs1, h6, h1⟩ := h1
      exact key l cs1 h6 h2 (h5 _) h4 h1

theorem plain_free {c : Cell} (h : c.plain = true) : c.free = true := by
  cases c <;> first | rfl | simp [Cell.plain] at h

theorem places_ok (ok : E.Ok) : ∀ (fs : List Field), (∀ f ∈ fs, (E.ty f.type).isSome = true) → ∃ places, fs.mapM (fun f => (E.P.info? f.type).map fun i => (f.offset, i.size)) = some places ∧ ∀ (j : Nat) f i, fs[j]? = some f → E.ty f.type = some i → places[j]? = some (f.offset, i.size)
  | [], _ => ⟨[], rfl, fun j f i h => by simp at h⟩
  | g :: fs, h => by
    obtain ⟨pl, h1, h2⟩ := places_ok ok fs (fun f hf => h f (List.mem_cons_of_mem _ hf))
    obtain ⟨i, hi⟩ := Option.isSome_iff_exists.1 (h g List.mem_cons_self)
    obtain ⟨ti, z, e1, e2, _⟩ := (ok.ty _ i hi).info
    refine ⟨(g.offset, i.size) :: pl, by simp [List.mapM_cons, e1, e2, h1], fun j f i' hj hi' => ?_⟩
    cases j with
    | zero =>
      simp only [List.getElem?_cons_zero, Option.some.injEq] at hj; subst hj
      rw [hi] at hi'; cases hi'; rfl
    | succ j => simp only [List.getElem?_cons_succ] at hj ⊢; exact h2 j f i' hj hi'

theorem core_build (ok : E.Ok) (r : RepSt d G w st a.tmps) (hl : ∀ t, look t = st.s t ∨ look t = .dead) (hd : ∀ t, o.dst = some t → t < a.tmps.size) (hpb : freeDst st.pb o.dst = true) {T : TypeId} {parts : Array (Nat × Operand)} (ho : o.op = .build T parts)
    (hc : core E H call o look h0 kD kpD = some (.inl (us, h'))) : Goes E.P d G w st a o us st.h := by
  unfold core at hc
  rw [ho] at hc
  simp only at hc
  rw [Option.bind_eq_some_iff] at hc; obtain ⟨i, hi, hc⟩ := hc
  have ht := ok.ty T i hi
  split at hc
  · rename_i fs hdesc
    obtain ⟨hall, hc⟩ := condE hc
    obtain ⟨ti, z, e1, e2, e3, e4, e5, e6, e7, e8⟩ := ht.info
    obtain ⟨pl, p1, p2⟩ := places_ok ok fs.toList (List.all_eq_true.1 hall)
    obtain ⟨cs', arr', f1, f2, f3, f4, _⟩ := parts_rep (placeR := (pl.toArray[·]?)) (by
      intro j off T' i' hp hi'
      unfold structPlace at hp
      rw [hi] at hp
      simp only [hdesc] at hp
      obtain ⟨g, hg, hp⟩ := Option.map_eq_some_iff.1 hp
      cases hp
      simpa using p2 j g i' (by simpa using hg) hi') (look_ok r hl) parts.toList i.zero z.cells (List.all_eq_true.2 fun c hc => plain_free (List.all_eq_true.1 e6 c hc)) (zero_box ht e5 e6 _) hc
    cases someC f1
    have hrun : (execOp a.eval o).run E.P w = .ok (.value (.agg arr')) w := by
      unfold execOp; rw [ho]
      have := run_build w T (parts.map fun (i, x) => (i, a.eval x)) arr' (P := E.P) (by
        unfold Program.built
        rw [e1, show E.P.underlying T = some (.struct fs) from by rw [ht.und, hdesc]]
        simp only [e4, p1]
        rw [Array.toList_map]
        exact f2)
      simp only [Sem.run_bind, this]
      rfl
    exact goes_pure r hd hpb hrun (fun t => ⟨arr', rfl, f3, f4⟩) (fun _ _ e => by cases e)
  · cases hc

end
end Go.Sh

/- New slices, and slices that grow. -/
namespace Go.Sh
open Go
set_option linter.unusedVariables false
set_option linter.unusedSimpArgs false

section
variable {ρ : Type} {E : Env} {H : FHint} {call : Nat → List AV → Heap → R} {d : Nat} {G : Gh} {w : World} {st : St} {a : Act} {o : Oper} {look : Nat → Slot} {h0 h' : Heap} {us : List (Nat × Slot)}

def ownG (G : Gh) (b n : Nat) (p : Owner) : Gh := { S := fun c => if c = b then n else G.S c, O := fun c => if c = b then p else G.O c, μ := G.μ }

theorem new_own {tmps : Array Value} (r : RepSt d G w st tmps) {t : Nat} (ht : t < tmps.size) (hpb : st.pb t = false) {n cap : Nat} {es : List (List AV)} {arr : Array Value} (T : TypeId) (hsz : arr.size = cap * n) (hc : es.length ≤ cap)
    (hr : RepC G.S w G.μ es.flatten (arr.toList.take es.flatten.length)) (hn : ∀ e ∈ es, e.length = n) :
    RepSt d (ownG G w.heap.size es.flatten.length (.sl d t)) (w.alloc (.cells arr T)) { s := ups st.s [(t, .c (.own n es))], h := st.h, pb := addPb st.pb [(t, .c (.own n es))] } (putT tmps (some t) (.slice (some ⟨w.heap.size, 0, none⟩) es.length cap)) ∧
      Fr d G w (ownG G w.heap.size es.flatten.length (.sl d t)) (w.alloc (.cells arr T)) := by
  have h0 := r.within.zero (Nat.le_refl w.heap.size)
  have hs : ∀ b, b < w.heap.size → SameB G w (ownG G w.heap.size es.flatten.length (.sl d t)) (w.alloc (.cells arr T)) b := fun b hb =>
    ⟨heap_alloc_lt w _ hb, by simp [ownG, Nat.ne_of_lt hb], by simp [ownG, Nat.ne_of_lt hb]⟩
  have hext : Ext G.S w G.μ (ownG G w.heap.size es.flatten.length (.sl d t)).S (w.alloc (.cells arr T)) G.μ := by
    refine ⟨fun b => ?_, fun b o m vals _ h => row?_alloc w _ h, fun _ _ h => h, fun b => szB_le fun arr T fz h => ⟨arr, T, fz, heap_alloc_old w _ h, Nat.le_refl _⟩⟩
    by_cases e : b = w.heap.size
    · subst e; rw [h0]; exact Nat.zero_le _
    · simp [ownG, e]
  have hfl : es.flatten.length ≤ arr.size := by
    rw [flatten_len hn, hsz]; exact Nat.mul_le_mul_right _ hc
  have hnew : (w.alloc (.cells arr T)).heap[w.heap.size]? = some (.cells arr T (0, 0)) := heap_alloc_new w _
  refine ⟨?_, ⟨rfl, rfl, rfl, by rw [size_alloc]; omega, hext, fun b hb _ => hs b hb⟩⟩
  refine r.next hext (some t) _ (fun _ e => by cases e; exact ht) (by simp [freeDst, hpb]) _ _ (fun _ e => by cases e; simp) (fun t' s hm => ?_) (fun _ _ _ hm => by simp at hm) (fun _ _ b hb' _ => hs b hb')
    (r.heap.mono' hext rfl (fun _ b hb' _ => hs b hb') (fun _ _ b hb' _ => hs b hb')) (fun b hb => ?_)
  · simp only [List.mem_cons, Prod.mk.injEq, List.not_mem_nil, or_false] at hm
    obtain ⟨rfl, rfl⟩ := hm
    rw [show (putT tmps (some t') (Value.slice (some ⟨w.heap.size, 0, none⟩) es.length cap)).getD t' undef = .slice (some ⟨w.heap.size, 0, none⟩) es.length cap from by
      show (tmps.setIfInBounds t' _).getD t' undef = _
      rw [getD_put _ _ _ _ ht, if_pos rfl]]
    refine .inr ⟨w.heap.size, cap, arr, T, rfl, by simp [ownG], hnew, hsz, hc, by simp [ownG], hr.mono hext, hn⟩
  · by_cases e : b = w.heap.size
    · subst e
      exact ⟨arr, T, (0, 0), hnew, by simpa [ownG] using hfl⟩
    · have hb' : G.S b ≠ 0 := by simpa [ownG, e] using hb
      obtain ⟨arr', T', fz, h1, h2⟩ := r.within b hb'
      exact ⟨arr', T', fz, heap_alloc_old w _ h1, by simpa [ownG, e] using h2⟩

theorem repl_length {α : Type} {l : List α} : ∀ (m : Nat), (repl m l).length = m * l.length
  | 0 => by simp [repl]
  | m + 1 => by rw [repl, List.length_append, repl_length m, Nat.succ_mul]; omega

theorem chunks_ok {n : Nat} : ∀ (m : Nat) (l : List AV), l.length = m * n → (chunks n m l).flatten = l ∧ (∀ e ∈ chunks n m l, e.length = n) ∧ (chunks n m l).length = m
  | 0, l, h => by
    have : l = [] := List.eq_nil_of_length_eq_zero (by simpa using h)
    subst this; exact ⟨rfl, by intro e he; simp [chunks] at he, rfl⟩
  | m + 1, l, h => by
    rw [Nat.succ_mul] at h
    obtain ⟨h1, h2, h3⟩ := chunks_ok (n := n) m (l.drop n) (by rw [List.length_drop]; omega)
    refine ⟨by rw [chunks, List.flatten_cons, h1, List.take_append_drop], fun e he => ?_, by rw [chunks, List.length_cons, h3]⟩
    rw [chunks] at he
    rcases List.mem_cons.1 he with rfl | he
    · rw [List.length_take]; omega
    · exact h2 e he

theorem repl_get {α : Type} {l : List α} (hl : 0 < l.length) : ∀ (m k : Nat), k < m * l.length → (repl m l)[k]? = l[k % l.length]?
  | 0, k, h => by simp at h
  | m + 1, k, h => by
    rw [Nat.succ_mul] at h
    rw [repl]
    by_cases hk : k < l.length
    · rw [List.getElem?_append_left hk, Nat.mod_eq_of_lt hk]
    · rw [List.getElem?_append_right (by omega), repl_get hl m (k - l.length) (by omega)]
      congr 1
      rw [Nat.mod_eq_sub_mod (by omega : k ≥ l.length)]

theorem core_buildSlice (ok : E.Ok) (r : RepSt d G w st a.tmps) (hl : ∀ t, look t = st.s t ∨ look t = .dead) (hd : ∀ t, o.dst = some t → t < a.tmps.size) (hpb : freeDst st.pb o.dst = true) {T : TypeId} {len : Nat} {parts : Array (Nat × Operand)} (ho : o.op = .buildSlice T len parts)
    (hc : core E H call o look h0 kD kpD = some (.inl (us, h'))) : Goes E.P d G w st a o us st.h := by
  unfold core at hc
  rw [ho] at hc
  simp only at hc
  rw [Option.bind_eq_some_iff] at hc; obtain ⟨i, hi, hc⟩ := hc
  have ht := ok.ty T i hi
  split at hc
  · rename_i e hdesc
    rw [Option.bind_eq_some_iff] at hc; obtain ⟨j, hj, hc⟩ := hc
    have hj' := ok.ty e j hj
    obtain ⟨hcond, hc⟩ := condE hc
    simp only [Bool.and_eq_true] at hcond
    obtain ⟨⟨⟨hc1, hc2⟩, hc3⟩, hc4⟩ := hcond
    have hc2 := bleE hc2; have hc3 := beqE hc3; have hc4 := bleE hc4
    obtain ⟨t, hdt⟩ := Option.isSome_iff_exists.1 hc1
    rw [hdt] at hpb
    have hpb' : st.pb t = false := by simpa [freeDst] using hpb
    obtain ⟨ti, z, e1, e2, e3, e4, e5, e6, e7, e8⟩ := hj'.info
    have hzs : z.cells.size = j.size := by
      have := congrArg List.length e5
      simpa [hc3] using this
    have hbase : RepBox G w (fun _ => .none) (repl len j.zero) ((Array.range (len * j.size)).map (z.cells[· % z.cells.size]!)) := by
      have hb0 := zero_box (G := G) (w := w) hj' e5 e6 (fun _ => .none)
      refine ⟨by rw [repl_length, hc3]; simp, fun k c hk => ?_⟩
      have hkl : k < len * j.size := by
        rcases Nat.lt_or_ge k (len * j.size) with h | h
        · exact h
        · rw [List.getElem?_eq_none (by rw [repl_length, hc3]; exact h)] at hk; cases hk
      rw [repl_get (by omega) len k (by rw [hc3]; exact hkl), hc3] at hk
      obtain ⟨x, hx, hr, hone⟩ := hb0.2 (k % j.size) c hk
      refine ⟨x, ?_, hr, hone⟩
      rw [Array.getElem?_map, Array.getElem?_range, if_pos hkl]
      simp only [Option.map_some, hzs]
      rw [getElem!_def, hx]
    obtain ⟨cs', arr', f1, f2, f3, f4, f5⟩ := parts_rep (placeR := fun i => some (i * j.size, j.size)) (by
      intro k off T' i' hp hi'
      cases hp
      rw [hj] at hi'; cases hi'; rfl) (look_ok r hl) parts.toList (repl len j.zero) _ (List.all_eq_true.2 fun c hc => by
        obtain ⟨k, hk⟩ := List.mem_iff_getElem?.1 hc
        have hkl : k < len * j.size := by
          rcases Nat.lt_or_ge k (len * j.size) with h | h
          · exact h
          · rw [List.getElem?_eq_none (by rw [repl_length, hc3]; exact h)] at hk; cases hk
        rw [repl_get (by omega) len k (by rw [hc3]; exact hkl)] at hk
        exact plain_free (List.all_eq_true.1 e6 c (List.mem_of_getElem? hk))) hbase hc
    cases someC f1
    have hlen : cs'.length = len * j.size := by rw [f5, repl_length, hc3]
    obtain ⟨g1, g2, g3⟩ := chunks_ok (n := j.size) len (cs'.map Cell.get) (by rw [List.length_map, hlen])
    have hrun : (execOp a.eval o).run E.P w = .ok (.value (.slice (some ⟨w.heap.size, 0, none⟩) len len)) (w.alloc (.cells arr' e)) := by
      unfold execOp; rw [ho]
      have hu : E.P.underlying T = some (.slice e) := by rw [ht.und, hdesc]
      have : (Instr.buildSlice T len (parts.map fun (i, x) => (i, a.eval x))).run E.P w = .ok (.slice (some ⟨w.heap.size, 0, none⟩) len len) (w.alloc (.cells arr' e)) := by
        have f2' : Instr.fill (fun i => some (i * ti.size, ti.size)) ((Array.range (len * ti.size)).map (z.cells[· % z.cells.size]!)) (parts.map fun (i, x) => (i, a.eval x)).toList = some arr' := by
          rw [e2, Array.toList_map]; exact f2
        by_cases h0 : len * ti.size = 0
        · have hnil : (Array.range (len * ti.size)).map (z.cells[· % z.cells.size]!) = #[] := by rw [h0]; simp
          rw [hnil] at f2'
          have hz0 : len = 0 := by
            rcases Nat.eq_zero_or_pos len with h | h
            · exact h
            · have := Nat.mul_pos h (show 0 < ti.size by omega); omega
          have hrange : (Array.range (len * ti.size)).map ((#[] : Array Value)[· % (#[] : Array Value).size]!) = #[] := by rw [h0]; simp
          have h2 : ¬ len * ti.size > 2 ^ 24 := by omega
          have hs : (sizeOf e).run E.P w = .ok ti.size w := by simp [sizeOf, typeInfo, e1]
          unfold Instr.buildSlice
          simp only [Sem.run_bind, run_underlying hu, Result.andThen_ok, hs, h2, h0, if_false, if_true, Sem.run_pure]
          subst hz0
          simp at f2' ⊢
          rw [show (Array.map (fun (_ : Nat) => (default : Value)) (Array.range 0)) = #[] from by simp, f2']
          simp [newRow]
        · exact run_buildSlice w T e len _ arr' ti z hu e1 e4 (by rw [e2]; omega) h0 f2'
      simp only [Sem.run_bind, this]
      rfl
    obtain ⟨hr, hf⟩ := new_own (tmps := a.tmps) r (hd t hdt) hpb' (n := j.size) (cap := len) (es := chunks j.size len (cs'.map Cell.get)) (arr := arr') e (by rw [← f4.1, hlen]) (by rw [g3]; exact Nat.le_refl _) (by
      rw [g1, List.take_of_length_le (by rw [List.length_map]; have := f4.1; simp; omega)]
      exact f4.gets) g2
    rw [g3] at hr
    refine goes_run hrun ?_ hf
    rw [hdt]
    exact hr
  · cases hc

theorem core_makeSlice (ok : E.Ok) (r : RepSt d G w st a.tmps) (hl : ∀ t, look t = st.s t ∨ look t = .dead) (hh : dstIn H.hb o.dst = true → h0 = st.h) (hd : ∀ t, o.dst = some t → t < a.tmps.size) (hpb : freeDst st.pb o.dst = true) {T : TypeId} {l c : Operand} (ho : o.op = .makeSlice T l c)
    (hc : core E H call o look h0 kD kpD = some (.inl (us, h'))) : Goes E.P d G w st a o us (bif dstIn H.hb o.dst then h' else st.h) := by
  unfold core at hc
  rw [ho] at hc
  simp only at hc
  rw [Option.bind_eq_some_iff] at hc; obtain ⟨i, hi, hc⟩ := hc
  have ht := ok.ty T i hi
  split at hc
  · rename_i e hdesc
    rw [Option.bind_eq_some_iff] at hc; obtain ⟨j, hj, hc⟩ := hc
    rw [Option.bind_eq_some_iff] at hc; obtain ⟨va, hva, hc⟩ := hc
    rw [Option.bind_eq_some_iff] at hc; obtain ⟨vb, hvb, hc⟩ := hc
    rw [Option.bind_eq_some_iff] at hc; obtain ⟨n, hn, hc⟩ := hc
    rw [Option.bind_eq_some_iff] at hc; obtain ⟨m, hm, hc⟩ := hc
    have hj' := ok.ty e j hj
    split at hc
    · rename_i t hdt
      obtain ⟨hcond, hc9⟩ := condE hc
      clear hc
      simp only [Bool.and_eq_true, decide_eq_true_eq] at hcond
      obtain ⟨⟨⟨⟨⟨⟨c1, c2⟩, c3⟩, c4⟩, c5⟩, c6⟩, c7⟩ := hcond
      have c5 := bleE c5; have c6 := beqE c6; have c7 := bleE c7
      subst c2
      have ea := intOf_eq hn; have eb := intOf_eq hm
      subst ea; subst eb
      have hra := (rdA_rep (look_ok r hl) hva).litE
      have hrb := (rdA_rep (look_ok r hl) hvb).litE
      have hpb' : st.pb t = false := by rw [hdt] at hpb; simpa [freeDst] using hpb
      have hin : dstIn H.hb o.dst = true := by rw [hdt]; exact c1
      have := hh hin
      subst this
      cases someC hc9
      obtain ⟨ti, z, e1, e2, e3, e4, e5, e6, e7, e8⟩ := hj'.info
      have hzs : z.cells.size = j.size := by
        have := congrArg List.length e5
        simpa [c6] using this
      have hund : E.P.underlying T = some (.slice e) := by rw [ht.und, hdesc]
      have hb63 : (ti.bytes : Int) * n ≤ 281474976710656 := by
        have h1 : (ti.bytes : Int) ≤ 16384 := by rw [e3]; omega
        have h2 : (ti.bytes : Int) * n ≤ 16384 * 1048576 := Int.mul_le_mul h1 c4 c3 (by omega)
        omega
      have hrun0 := run_make (P := E.P) w T e ti z hund e1 e4 .i64 .i64 n n c3 (Int.le_refl _) hb63 (by omega)
      have hrun : (execOp a.eval o).run E.P w = .ok (.value (.slice (some ⟨w.heap.size, 0, none⟩) n.toNat n.toNat)) (w.alloc (.cells (madeCells z.cells (n.toNat * ti.size)) e)) := by
        unfold execOp; rw [ho]
        simp only [hra, hrb, Sem.run_bind, hrun0, Result.andThen_ok, Sem.run_pure]
      have hbase : RepBox G w (.hc st.h.length) ((repl n.toNat j.zero).map Cell.norm) (madeCells z.cells (n.toNat * ti.size)) := by
        refine RepBox.norm ?_
        have hb0 := zero_box (G := G) (w := w) hj' e5 e6 (fun _ => .none)
        refine ⟨by rw [repl_length, c6, size_madeCells, e2], fun k c hk => ?_⟩
        have hkl : k < n.toNat * j.size := by
          rcases Nat.lt_or_ge k (n.toNat * j.size) with h | h
          · exact h
          · rw [List.getElem?_eq_none (by rw [repl_length, c6]; exact h)] at hk; cases hk
        rw [repl_get (by omega) n.toNat k (by rw [c6]; exact hkl), c6] at hk
        have hb1 := zero_box (G := G) (w := w) hj' e5 e6 (fun _ => .hc st.h.length k)
        obtain ⟨x, hx, hr, hone⟩ := hb1.2 (k % j.size) c hk
        refine ⟨x, ?_, hr, hone⟩
        unfold madeCells
        rw [Array.getElem?_map, Array.getElem?_range, if_pos (by rw [e2]; exact hkl)]
        simp only [Option.map_some, hzs]
        rw [getElem!_def, hx]
      have hμl : G.μ.length = st.h.length := r.heap.1
      obtain ⟨hr, hf⟩ := new_heapX (a := a) r (hd t hdt) hpb' e hbase.tail (x := .hs j.size st.h.length 0 n.toNat) (v := .slice (some ⟨w.heap.size, 0, none⟩) n.toNat n.toNat) (RepA.hs (n := j.size) (b := w.heap.size) 0 n.toNat n.toNat (by show (G.μ ++ [w.heap.size])[st.h.length]? = some w.heap.size; rw [← hμl]; simp) (Nat.le_refl _) (by rw [Nat.zero_add, szB_block (heap_alloc_new w _), size_madeCells, e2]; exact Nat.le_refl _))
      rw [hin]
      refine goes_run hrun ?_ hf
      rw [hdt]; exact hr
    · cases hc
  · cases hc

end
end Go.Sh

/- append. -/
namespace Go.Sh
open Go
set_option linter.unusedVariables false

section
variable {ρ : Type} {E : Env} {H : FHint} {call : Nat → List AV → Heap → R} {d : Nat} {G : Gh} {w : World} {st : St} {a : Act} {o : Oper} {look : Nat → Slot} {h0 h' : Heap} {us : List (Nat × Slot)}

theorem RepC.ones {S : Nat → Nat} {μ : List Nat} {l : List AV} {m : List Value} (h : RepC S w μ l m) : ∀ u ∈ m, u.oneCell' = true := by
  intro u hu
  obtain ⟨i, hi⟩ := List.mem_iff_getElem?.1 hu
  have hlt : i < l.length := by
    rw [h.length]
    rcases Nat.lt_or_ge i m.length with h' | h'
    · exact h'
    · rw [List.getElem?_eq_none h'] at hi; cases hi
  obtain ⟨x, hx, _, ho⟩ := h.get (List.getElem?_eq_getElem hlt)
  rw [hi] at hx; cases hx; exact ho

/-- A slice's elements, as a source of 'append'. -/
theorem src_rep {P : Program} {T' e' : TypeId} {n : Nat} {ys : List (List AV)} {Y : Value} (hk : P.underlying T' = some (.slice e')) (h : RepA G.S w G.μ (.sl n ys) Y) :
    ∃ news, Src P n T' Y ys.length news w ∧ RepC G.S w G.μ ys.flatten news ∧ news.length = ys.length * n := by
  cases h with
  | slN => exact ⟨[], Src.ofNil w hk 0, .nil, by simp⟩
  | slE _ a => exact ⟨[], Src.ofSlice w hk a 0 0 [] (by simp) (fun j u hj => by simp at hj) (fun _ h => by cases h), .nil, by simp⟩
  | @sl _ _ b o cap vals hc hr hv hs hn =>
    have hl : vals.length = ys.length * n := by rw [← hv.length, flatten_len hn]
    exact ⟨vals, Src.ofSlice w hk ⟨b, o, none⟩ ys.length cap vals hl (fun j u hj => by rw [Addr.add_lit]; exact row?_cell hr hj) hv.ones, hv, hl⟩

theorem app_none {P : Program} {T T' ty e : TypeId} {i : TypeInfo} {Y : Value} (ht : P.underlying T = some (.slice e)) (hi : P.info? e = some i) (hs : Src P i.size T' Y 0 [] w) :
    (Builtin.append_ #[T, T'] ty #[.slice none 0 0, Y]).run P w = .ok (.slice none 0 0) w := by
  rcases hs.kind with ⟨e', hk⟩ | hk <;> simp [Builtin.append_, run_underlying ht, run_underlying hk, sizeOf, typeInfo, hi, hs.len, hs.cells]

theorem ext_drew : Ext G.S w G.μ G.S w.drew G.μ := ⟨fun _ => Nat.le_refl _, fun _ _ _ _ _ h => h, fun _ _ h => h, fun _ => Nat.le_refl _⟩
theorem fr_drew : Fr d G w G w.drew := ⟨rfl, rfl, rfl, Nat.le_refl _, ext_drew, fun _ _ _ => ⟨rfl, rfl, rfl⟩⟩

theorem app_grow_rep {tmps : Array Value} (r : RepSt d G w st tmps) {t : Nat} (ht : t < tmps.size) (hpb : st.pb t = false) {P : Program} {T T' ty e : TypeId} {i : TypeInfo} {z : Value} (hu : P.underlying T = some (.slice e)) (hi : P.info? e = some i) (hz : i.zero = some z)
    (hzs : z.cells.size = i.size) (hby : i.bytes ≤ 16384) {base : Option Addr} {n cap : Nat} {es ys : List (List AV)} {olds : List Value} (hn : i.size = n)
    (hold : (Builtin.firstCells n es.length (.slice base es.length cap)).run P w.drew = .ok olds.toArray w.drew) (ho : RepC G.S w G.μ es.flatten olds) (hen : ∀ x ∈ es, x.length = n) (hyn : ∀ x ∈ ys, x.length = n)
    {Y : Value} {news : List Value} (hs : Src P n T' Y ys.length news w) (hy : RepC G.S w G.μ ys.flatten news) (hg : cap < es.length + ys.length) (hm : es.length + ys.length ≤ maxApp) :
    ∃ V1 w1 G2, (Builtin.append_ #[T, T'] ty #[.slice base es.length cap, Y]).run P w = .ok V1 w1 ∧ RepSt d G2 w1 { s := ups st.s [(t, .c (.own n (es ++ ys)))], h := st.h, pb := addPb st.pb [(t, .c (.own n (es ++ ys)))] } (putT tmps (some t) V1) ∧ Fr d G w G2 w1 := by
  subst hn
  have hm' : es.length + ys.length ≤ 2147483648 := hm
  have hfit : Builtin.nextslicecap (es.length + ys.length) cap * i.bytes ≤ 281474976710656 := by
    refine growslice_fits_wide hg (Nat.le_trans (Nat.mul_le_mul (show _ ≤ 2684354752 by omega) hby) (by decide))
  have hrun := run_append_grow_src (P := P) w T T' ty e i z hu hi hz base es.length cap olds hold Y ys.length news hs hg (by omega) hfit
  have hge := grownCap_ge w (es.length + ys.length) cap e
  have hlen : (es ++ ys).length = es.length + ys.length := List.length_append
  have hol : olds.length = es.length * i.size := by rw [← ho.length, flatten_len hen]
  have hnl : news.length = ys.length * i.size := by rw [← hy.length, flatten_len hyn]
  have hfl : (es ++ ys).flatten.length = olds.length + news.length := by rw [List.flatten_append, List.length_append, ho.length, hy.length]
  have rd : RepSt d G w.drew st tmps := r.next (w' := w.drew) ext_drew none undef (fun _ e => by cases e) rfl [] _ (fun _ e => by cases e) (fun _ _ hm => by cases hm) (fun _ _ _ hm => by cases hm) (fun _ _ _ _ _ => ⟨rfl, rfl, rfl⟩) (r.heap.mono' ext_drew rfl (fun _ _ _ _ => ⟨rfl, rfl, rfl⟩) (fun _ _ _ _ _ => ⟨rfl, rfl, rfl⟩)) r.within
  have hrep : RepC G.S w.drew G.μ (es ++ ys).flatten (olds ++ news) := by
    rw [List.flatten_append]
    exact (ho.append hy).mono ext_drew
  obtain ⟨hr, hf⟩ := new_own rd ht hpb (n := i.size) (cap := grownCap w (es.length + ys.length) cap e) (es := es ++ ys)
    (arr := (olds ++ news).toArray ++ Builtin.zeroCells z.cells (grownCap w (es.length + ys.length) cap e - (es.length + ys.length))) e
    (by
      rw [Array.size_append, size_zeroCells, hzs]
      simp only [List.size_toArray, List.length_append, hol, hnl]
      rw [← Nat.add_mul, ← Nat.add_mul]
      congr 1; omega) (by rw [hlen]; exact hge) (by
      rw [hfl]
      rw [Array.toList_append, List.take_append_of_le_length (by simp), List.take_of_length_le (by simp)]
      exact hrep) (fun x hx => by
      rcases List.mem_append.1 hx with h | h
      · exact hen x h
      · exact hyn x h)
  rw [hlen] at hr
  exact ⟨_, _, _, hrun, hr, fr_drew.trans hf⟩

theorem app_room_rep {tmps : Array Value} (r : RepSt d G w st tmps) {t : Nat} (ht : t < tmps.size) (hpb : st.pb t = false) {P : Program} {T T' ty e : TypeId} {i : TypeInfo} (hu : P.underlying T = some (.slice e)) (hi : P.info? e = some i)
    {n b cap : Nat} {es ys : List (List AV)} {arr : Array Value} {Tb : TypeId} (hn : i.size = n) (hO : G.O b = .sl d t) (hb : w.heap[b]? = some (.cells arr Tb (0, 0))) (hsz : arr.size = cap * n) (hS : G.S b = es.flatten.length)
    (ho : RepC G.S w G.μ es.flatten (arr.toList.take es.flatten.length)) (hen : ∀ x ∈ es, x.length = n) (hyn : ∀ x ∈ ys, x.length = n)
    {Y : Value} {news : List Value} (hs : Src P n T' Y ys.length news w) (hy : RepC G.S w G.μ ys.flatten news) (hg : es.length + ys.length ≤ cap) :
    ∃ V1 w1 G2, (Builtin.append_ #[T, T'] ty #[.slice (some ⟨b, 0, none⟩) es.length cap, Y]).run P w = .ok V1 w1 ∧ RepSt d G2 w1 { s := ups st.s [(t, .c (.own n (es ++ ys)))], h := st.h, pb := addPb st.pb [(t, .c (.own n (es ++ ys)))] } (putT tmps (some t) V1) ∧ Fr d G w G2 w1 := by
  subst hn
  have hlen : (es ++ ys).length = es.length + ys.length := List.length_append
  have hel : es.flatten.length = es.length * i.size := flatten_len hen
  have hnl : news.length = ys.length * i.size := by rw [← hy.length, flatten_len hyn]
  have hfl : (es ++ ys).flatten.length = es.length * i.size + news.length := by rw [List.flatten_append, List.length_append, hel, hy.length]
  have hle : es.length * i.size + news.length ≤ arr.size := by
    rw [hnl, ← Nat.add_mul, hsz]; exact Nat.mul_le_mul_right _ hg
  have hth := there_block hb (es.length * i.size) news.length hle
  have hrun := run_append_room_src (P := P) w T T' ty e i hu hi b 0 es.length cap Y ys.length news hs hg (fun j hj => by simpa using (hth j hj).1) (fun j hj => by simpa using (hth j hj).2)
  rw [Nat.zero_add] at hrun
  obtain ⟨arr', a1, a2, a3⟩ := heap_setCells b news (es.length * i.size) w arr hb hle
  obtain ⟨s1, s2, s3⟩ := same_setCells b news (es.length * i.size) w
  have hext0 : Ext G.S w G.μ G.S (w.setCells b (es.length * i.size) news) G.μ := ext_setCells hb hle (by omega)
  let G2 : Gh := { S := fun c => if c = b then (es ++ ys).flatten.length else G.S c, O := G.O, μ := G.μ }
  have hext : Ext G.S w G.μ G2.S (w.setCells b (es.length * i.size) news) G2.μ := by
    refine ⟨fun c => ?_, hext0.row, fun _ _ h => h, hext0.sz⟩
    show G.S c ≤ if c = b then _ else _
    by_cases e : c = b
    · subst e; rw [if_pos rfl, hS, List.flatten_append, List.length_append]; exact Nat.le_add_right _ _
    · rw [if_neg e]; exact Nat.le_refl _
  have hsame : ∀ c, c ≠ b → SameB G w G2 (w.setCells b (es.length * i.size) news) c := fun c hc => ⟨heap_setCells_other b news _ w hc, by show (if c = b then _ else _) = _; rw [if_neg hc], rfl⟩
  have hne : ∀ (c : Nat) (p : Owner), G.O c = p → p ≠ .sl d t → c ≠ b := fun c p hc hp e => hp (by rw [← hc, e, hO])
  refine ⟨_, _, G2, hrun, ?_, ⟨s1, s2, s3, by rw [size_setCells]; exact Nat.le_refl _, hext, fun c hc hq => hsame c (fun e => by subst e; rw [hO, quiet_sl] at hq; cases hq)⟩⟩
  refine r.next hext (some t) _ (fun _ e => by cases e; exact ht) (by simp [freeDst, hpb]) _ _ (fun _ e => by cases e; simp) (fun t' s hm => ?_) (fun _ _ _ hm => by simp at hm) (fun k hk c _ hown => hsame c ?_)
    (r.heap.mono' hext rfl (fun i c _ hc => hsame c (hne c _ hc (by simp))) (fun i k c _ hc => hsame c (hne c _ hc (by simp)))) (fun c hc => ?_)
  · simp only [List.mem_cons, Prod.mk.injEq, List.not_mem_nil, or_false] at hm
    obtain ⟨rfl, rfl⟩ := hm
    rw [show (putT tmps (some t') (Value.slice (some ⟨b, 0, none⟩) (es.length + ys.length) cap)).getD t' undef = .slice (some ⟨b, 0, none⟩) (es.length + ys.length) cap from by
      show (tmps.setIfInBounds t' _).getD t' undef = _
      rw [getD_put _ _ _ _ ht, if_pos rfl]]
    refine .inr ⟨b, cap, arr', Tb, by rw [hlen], hO, a1, by rw [a3, hsz], by rw [hlen]; exact hg, by show (if b = b then _ else _) = _; rw [if_pos rfl], ?_, fun x hx => ?_⟩
    · have htk : arr'.toList.take (es ++ ys).flatten.length = arr.toList.take es.flatten.length ++ news := by
        rw [hfl, a2, spliceV, hel, List.take_append_of_le_length (by simp; omega), List.take_of_length_le (by simp; omega)]
      rw [htk, List.flatten_append]
      exact (ho.append hy).mono hext
    · rcases List.mem_append.1 hx with h | h
      · exact hen x h
      · exact hyn x h
  · have hk : k ≠ t := by simpa using hk
    rcases hown with h | ⟨j, h⟩
    · exact hne c _ h (by simpa using hk)
    · exact hne c _ h (by simp)
  · by_cases e : c = b
    · subst e
      refine ⟨arr', Tb, (0, 0), a1, ?_⟩
      show (if c = c then _ else _) ≤ _
      rw [if_pos rfl, hfl, a3]; exact hle
    · have hc' : G.S c ≠ 0 := by have : G2.S c = G.S c := (hsame c e).2.1; rwa [this] at hc
      obtain ⟨ar, T', fz, h1, h2⟩ := r.within c hc'
      exact ⟨ar, T', fz, by rw [heap_setCells_other b news _ w e]; exact h1, by rw [(hsame c e).2.1]; exact h2⟩

theorem app_rep {tmps : Array Value} (r : RepSt d G w st tmps) {t : Nat} (ht : t < tmps.size) (hpb : st.pb t = false) {P : Program} {T T' ty e e' : TypeId} {i : TypeInfo} {z : Value} (hu : P.underlying T = some (.slice e)) (hu' : P.underlying T' = some (.slice e')) (hi : P.info? e = some i) (hz : i.zero = some z)
    (hzs : z.cells.size = i.size) (hby : i.bytes ≤ 16384) {n : Nat} {es ys : List (List AV)} (hn : i.size = n) {V Y : Value} (hV : RepCell G w (.sl d t) (.own n es) V) (hY : RepA G.S w G.μ (.sl n ys) Y) (hm : es.length + ys.length ≤ maxApp) :
    ∃ V1 w1 G2, (Builtin.append_ #[T, T'] ty #[V, Y]).run P w = .ok V1 w1 ∧ RepSt d G2 w1 { s := ups st.s [(t, .c (.own n (es ++ ys)))], h := st.h, pb := addPb st.pb [(t, .c (.own n (es ++ ys)))] } (putT tmps (some t) V1) ∧ Fr d G w G2 w1 := by
  have hyn : ∀ x ∈ ys, x.length = n := by
    cases hY with
    | slN => intro x hx; cases hx
    | slE => intro x hx; cases hx
    | sl _ _ _ _ hn => exact hn
  obtain ⟨news, hs, hy, hnl⟩ := src_rep (P := P) hu' hY
  rcases hV with ⟨rfl, rfl⟩ | ⟨b, cap, arr, Tb, rfl, hO, hb, hsz, hc, hS, hr, hen⟩
  · by_cases h0 : ys.length = 0
    · have hys : ys = [] := List.eq_nil_of_length_eq_zero h0
      subst hys
      have hnews : news = [] := List.eq_nil_of_length_eq_zero (by simpa using hnl)
      subst hnews
      subst hn
      refine ⟨_, _, G, app_none hu hi hs, ?_, Fr.refl _ _ _⟩
      refine r.next (Ext.refl _ _ _) (some t) _ (fun _ e => by cases e; exact ht) (by simp [freeDst, hpb]) _ _ (fun _ e => by cases e; simp) (fun t' s hm => ?_) (fun _ _ _ hm => by simp at hm) (fun _ _ _ _ _ => ⟨rfl, rfl, rfl⟩) r.heap r.within
      simp only [List.mem_cons, Prod.mk.injEq, List.not_mem_nil, or_false] at hm
      obtain ⟨rfl, rfl⟩ := hm
      refine .inl ⟨?_, rfl⟩
      show (tmps.setIfInBounds t' _).getD t' undef = _
      rw [getD_put _ _ _ _ ht, if_pos rfl]
    · have := app_grow_rep (ty := ty) (es := []) (olds := []) (base := none) (cap := 0) r ht hpb hu hi hz hzs hby hn (run_firstCells_none _ _ _ _ _) .nil (fun x hx => by cases hx) hyn hs hy (by simp; omega) hm
      exact this
  · by_cases hroom : es.length + ys.length ≤ cap
    · exact app_room_rep r ht hpb hu hi hn hO hb hsz hS hr hen hyn hs hy hroom
    · have hel := flatten_len hen
      have hle : es.flatten.length ≤ arr.size := by rw [hel, hsz]; exact Nat.mul_le_mul_right _ hc
      have hrow : row? w b 0 es.flatten.length = some (arr.toList.take es.flatten.length) := by
        rw [row?_of_block hb 0 _ (by omega), List.drop_zero]
      exact app_grow_rep (olds := arr.toList.take es.flatten.length) r ht hpb hu hi hz hzs hby hn (run_firstCells_some w.drew n es.length ⟨b, 0, none⟩ es.length cap _ (by
        simp only [List.length_take, Array.length_toList]
        rw [hel] at hle ⊢; omega) (fun j v hj => by
        rw [Addr.add_lit]; exact row?_cell hrow hj)) hr hen hyn hs hy (by omega) hm

theorem tail_of {G : Gh} {w : World} {pf : Nat → Owner} {l : List AV} {vals : List Value} (h : RepC G.S w G.μ l vals) {arr : Array Value} (ha : arr.toList.take l.length = vals) : RepTail G w pf (l.map Cell.v) arr := by
  have hl := h.length
  refine ⟨?_, fun i c hc => ?_⟩
  · have := congrArg List.length ha
    rw [List.length_take] at this
    rw [List.length_map]
    have h2 : arr.toList.length = arr.size := Array.length_toList
    omega
  · rw [List.getElem?_map, Option.map_eq_some_iff] at hc
    obtain ⟨x, hx, rfl⟩ := hc
    obtain ⟨v, hv, hr, ho⟩ := h.get hx
    refine ⟨v, ?_, hr, ho⟩
    rw [← ha, List.getElem?_take_of_lt (List.getElem?_eq_some_iff.1 hx).1] at hv
    simpa using hv

theorem flat_ne {ys : List (List AV)} (h : ys ≠ []) : ∃ y r, ys = y :: r := by cases ys with | nil => exact absurd rfl h | cons y r => exact ⟨y, r, rfl⟩

/-- Elements appended to a new slice, laid into the heap. -/
theorem app_heap_rep {tmps : Array Value} (r : RepSt d G w st tmps) {t : Nat} (ht : t < tmps.size) (hpb : st.pb t = false) {P : Program} {T T' ty e e' : TypeId} {i : TypeInfo} {z : Value} (hu : P.underlying T = some (.slice e)) (hu' : P.underlying T' = some (.slice e')) (hi : P.info? e = some i) (hz : i.zero = some z)
    (hzs : z.cells.size = i.size) (hby : i.bytes ≤ 16384) {n : Nat} {ys : List (List AV)} (hn : i.size = n) {V Y : Value} (hV : RepCell G w (.sl d t) (.own n []) V) (hY : RepA G.S w G.μ (.sl n ys) Y) (hm : ys.length ≤ maxApp) :
    ∃ V1 w1 G2, (Builtin.append_ #[T, T'] ty #[V, Y]).run P w = .ok V1 w1 ∧ RepSt d G2 w1 { s := ups st.s [(t, .c (.v (hsA n st.h ys)))], h := hsH st.h ys, pb := addPb st.pb [(t, .c (.v (hsA n st.h ys)))] } (putT tmps (some t) V1) ∧ Fr d G w G2 w1 := by
  have hyn : ∀ x ∈ ys, x.length = n := by
    cases hY with
    | slN => intro x hx; cases hx
    | slE => intro x hx; cases hx
    | sl _ _ _ _ hn => exact hn
  cases ys with
  | nil =>
    obtain ⟨V1, w1, G2, q1, q2, q3⟩ := app_rep (ty := ty) r ht hpb hu hu' hi hz hzs hby hn hV hY (by simp [maxApp])
    refine ⟨V1, w1, G2, q1, ⟨fun i => ?_, fun u t' off hu => ?_, q2.heap, q2.within⟩, q3⟩
    · have hc := q2.slot i
      by_cases e : i = t
      · subst e
        have h1 : ups st.s [(i, Slot.c (.own n ([] ++ [])))] i = .c (.own n []) := by simp [ups, upd]
        have h2 : ups st.s [(i, Slot.c (.v (hsA n st.h [])))] i = .c (.v (.sl n [])) := by simp [ups, upd, hsA]
        have hc : RepSlot G2 w1 d i (ups st.s [(i, Slot.c (.own n ([] ++ [])))] i) _ := hc
        rw [h1] at hc
        show RepSlot G2 w1 d i (ups st.s [(i, Slot.c (.v (hsA n st.h [])))] i) _
        rw [h2]
        have hc : RepCell G2 w1 (.sl d i) (.own n []) _ := hc
        exact hc.get
      · have h1 : ups st.s [(t, Slot.c (.own n ([] ++ [])))] i = ups st.s [(t, Slot.c (.v (hsA n st.h [])))] i := by simp [ups, upd, beqF (fun h => e h.symm)]
        have hc : RepSlot G2 w1 d i (ups st.s [(t, Slot.c (.own n ([] ++ [])))] i) _ := hc
        rw [h1] at hc; exact hc
    · have hu' : ups st.s [(t, Slot.c (.v (hsA n st.h [])))] u = .path t' off := hu
      have hut : u ≠ t := fun e => by subst e; simp [ups, upd] at hu'
      have h1 : ups st.s [(t, Slot.c (.own n ([] ++ [])))] u = .path t' off := by
        rw [← hu']; simp [ups, upd, beqF (fun h => hut h.symm)]
      exact q2.path u t' off h1
  | cons y yr =>
    obtain ⟨news, hs, hy, hnl⟩ := src_rep (P := P) hu' hY
    have hpos : 0 < (y :: yr).length := Nat.succ_pos _
    have grow : ∀ (base : Option Addr) (cap : Nat), cap < (y :: yr).length → (Builtin.firstCells n 0 (.slice base 0 cap)).run P w.drew = .ok #[] w.drew →
        ∃ V1 w1 G2, (Builtin.append_ #[T, T'] ty #[.slice base 0 cap, Y]).run P w = .ok V1 w1 ∧ RepSt d G2 w1 { s := ups st.s [(t, .c (.v (hsA n st.h (y :: yr))))], h := hsH st.h (y :: yr), pb := addPb st.pb [(t, .c (.v (hsA n st.h (y :: yr))))] } (putT tmps (some t) V1) ∧ Fr d G w G2 w1 := by
      intro base cap hg hold
      subst hn
      have hm' : (y :: yr).length ≤ 2147483648 := hm
      have hfit : Builtin.nextslicecap (0 + (y :: yr).length) cap * i.bytes ≤ 281474976710656 := by
        refine growslice_fits_wide (by omega) (Nat.le_trans (Nat.mul_le_mul (show _ ≤ 2684354752 by omega) hby) (by decide))
      have hrun := run_append_grow_src (P := P) w T T' ty e i z hu hi hz base 0 cap [] hold Y (y :: yr).length news hs (by omega) (by omega) hfit
      have hge := grownCap_ge w (0 + (y :: yr).length) cap e
      have rd : RepSt d G w.drew st tmps := r.next (w' := w.drew) ext_drew none undef (fun _ e => by cases e) rfl [] _ (fun _ e => by cases e) (fun _ _ hm => by cases hm) (fun _ _ _ hm => by cases hm) (fun _ _ _ _ _ => ⟨rfl, rfl, rfl⟩) (r.heap.mono' ext_drew rfl (fun _ _ _ _ => ⟨rfl, rfl, rfl⟩) (fun _ _ _ _ _ => ⟨rfl, rfl, rfl⟩)) r.within
      have hy' : RepC G.S w.drew G.μ (y :: yr).flatten news := hy.mono ext_drew
      have hl := hy'.length
      obtain ⟨hr, hf⟩ := new_heapX (a := { tmps := tmps, defers := [] }) rd ht hpb (cs := ((y :: yr).flatten).map Cell.v)
        (arr := ([] ++ news).toArray ++ Builtin.zeroCells z.cells (grownCap w (0 + (y :: yr).length) cap e - (0 + (y :: yr).length))) e
        (tail_of hy' (by rw [hl, List.nil_append, Array.toList_append, List.take_append_of_le_length (by simp), List.take_of_length_le (by simp)]))
        (x := .hs i.size st.h.length 0 (yr.length + 1)) (v := .slice (some ⟨w.heap.size, 0, none⟩) (0 + (y :: yr).length) (grownCap w (0 + (y :: yr).length) cap e))
        (by
          rw [Nat.zero_add]
          exact RepA.hs 0 (yr.length + 1) _ (by
            have hμl : G.μ.length = st.h.length := r.heap.1
            show (G.μ ++ [w.heap.size])[st.h.length]? = some w.heap.size
            rw [← hμl]; simp) (by rw [Nat.zero_add] at hge; exact hge) (by
            rw [show w.heap.size = w.drew.heap.size from rfl, szB_block (heap_alloc_new w.drew _), Array.size_append, size_zeroCells, hzs, List.size_toArray, List.nil_append, hnl, ← Nat.add_mul, Nat.zero_add]
            exact Nat.mul_le_mul_right _ (by omega)))
      exact ⟨_, _, _, hrun, hr, fr_drew.trans hf⟩
    rcases hV with ⟨rfl, _⟩ | ⟨b, cap, arr, Tb, rfl, hO, hb, hsz, hc, hS, hr, hen⟩
    · exact grow none 0 hpos (run_firstCells_none _ _ _ _ _)
    · by_cases hroom : (y :: yr).length ≤ cap
      · subst hn
        have hle : 0 + news.length ≤ arr.size := by
          rw [hnl, Nat.zero_add, hsz]; exact Nat.mul_le_mul_right _ hroom
        have hth := there_block hb 0 news.length hle
        have hrun := run_append_room_src (P := P) w T T' ty e i hu hi b 0 0 cap Y (y :: yr).length news hs (by omega) (fun j hj => by simpa using (hth j hj).1) (fun j hj => by simpa using (hth j hj).2)
        rw [Nat.zero_mul, Nat.zero_add, Nat.zero_add] at hrun
        obtain ⟨arr', a1, a2, a3⟩ := heap_setCells b news 0 w arr hb hle
        obtain ⟨s1, s2, s3⟩ := same_setCells b news 0 w
        have hS0 : G.S b = 0 := hS
        have hext0 : Ext G.S w G.μ G.S (w.setCells b 0 news) G.μ := ext_setCells hb hle (by omega)
        have hμl : G.μ.length = st.h.length := r.heap.1
        let G2 : Gh := { S := G.S, O := fun c => if c = b then .hb st.h.length else G.O c, μ := G.μ ++ [b] }
        have hμ : ∀ (i b' : Nat), G.μ[i]? = some b' → (G.μ ++ [b])[i]? = some b' := fun i b' h => by
          rw [List.getElem?_append_left (List.getElem?_eq_some_iff.1 h).1]; exact h
        have hext : Ext G.S w G.μ G2.S (w.setCells b 0 news) G2.μ := ⟨fun _ => Nat.le_refl _, hext0.row, hμ, hext0.sz⟩
        have hsame : ∀ c, c ≠ b → SameB G w G2 (w.setCells b 0 news) c := fun c hc => ⟨heap_setCells_other b news _ w hc, rfl, by show (if c = b then _ else _) = _; rw [if_neg hc]⟩
        have hne : ∀ (c : Nat) (p : Owner), G.O c = p → p ≠ .sl d t → c ≠ b := fun c p hc hp e => hp (by rw [← hc, e, hO])
        have hO2 : G2.O b = .hb st.h.length := by show (if b = b then _ else _) = _; rw [if_pos rfl]
        have hheap : RepHeap G2 (w.setCells b 0 news) (st.h ++ [((y :: yr).flatten).map Cell.v]) := by
          refine ⟨by show (G.μ ++ [b]).length = _; simp [hμl], fun i c hc hcn => ?_, fun g l e => RepA.mono hext (r.heap.2.2 g l e)⟩
          rcases Nat.lt_or_ge i st.h.length with hi | hi
          · rw [List.getElem?_append_left hi] at hc
            obtain ⟨b', arr2, T', h1, h2, h3, h4, h5⟩ := r.heap.2.1 i c hc hcn
            have hb' := hne b' _ h2 (by simp)
            obtain ⟨e1, e2, e3⟩ := hsame b' hb'
            exact ⟨b', arr2, T', hμ i b' h1, e3.trans h2, e1.trans h3, e2.trans h4, h5.mono' hext (fun k c' _ ho => hsame c' (hne c' _ ho (by simp)))⟩
          · rw [List.getElem?_append_right hi] at hc
            have hi' : i = st.h.length := by
              rcases Nat.eq_zero_or_pos (i - st.h.length) with e | e
              · omega
              · rw [List.getElem?_eq_none (by simp; omega)] at hc; cases hc
            subst hi'
            simp only [Nat.sub_self, List.getElem?_cons_zero, Option.some.injEq] at hc
            subst hc
            refine ⟨b, arr', Tb, by show (G.μ ++ [b])[st.h.length]? = some b; rw [← hμl]; simp, hO2, a1, hS0, tail_of (hy.mono hext) ?_⟩
            rw [hy.length, a2, spliceV, List.take_zero, List.nil_append, List.take_append_of_le_length (Nat.le_refl _), List.take_of_length_le (Nat.le_refl _)]
        refine ⟨_, _, G2, hrun, ?_, ⟨s1, s2, s3, by rw [size_setCells]; exact Nat.le_refl _, hext, fun c hc hq => hsame c (fun e => by subst e; rw [hO, quiet_sl] at hq; cases hq)⟩⟩
        refine r.next hext (some t) _ (fun _ e => by cases e; exact ht) (by simp [freeDst, hpb]) _ _ (fun _ e => by cases e; simp) (fun t' s hm => ?_) (fun _ _ _ hm => by simp at hm) (fun k hk c _ hown => hsame c ?_) hheap (fun c hc => ?_)
        · simp only [List.mem_cons, Prod.mk.injEq, List.not_mem_nil, or_false] at hm
          obtain ⟨rfl, rfl⟩ := hm
          show RepA _ _ _ _ ((tmps.setIfInBounds t' _).getD t' undef)
          rw [getD_put _ _ _ _ ht, if_pos rfl]
          exact RepA.hs 0 (yr.length + 1) cap (by show (G.μ ++ [b])[st.h.length]? = some b; rw [← hμl]; simp) hroom (by
            rw [Nat.zero_add, szB_block a1, a3, hsz]; exact Nat.le_refl _)
        · have hk : k ≠ t := by simpa using hk
          rcases hown with h | ⟨j, h⟩
          · exact hne c _ h (by simpa using hk)
          · exact hne c _ h (by simp)
        · have hc' : G.S c ≠ 0 := hc
          have hcb : c ≠ b := fun e => by rw [e] at hc'; exact hc' hS0
          obtain ⟨ar, T', fz, h1, h2⟩ := r.within c hc'
          exact ⟨ar, T', fz, by rw [heap_setCells_other b news _ w hcb]; exact h1, h2⟩
      · exact grow (some ⟨b, 0, none⟩) cap (by omega) (run_firstCells_some w.drew n 0 ⟨b, 0, none⟩ 0 cap [] (by simp) (fun j v hj => by simp at hj))

theorem set_nil_get {h : Heap} {i j : Nat} {c : List Cell} (hc : (h.set j [])[i]? = some c) (hn : c ≠ []) : i ≠ j ∧ h[i]? = some c := by
  by_cases e : j = i
  · subst e
    have hl : j < h.length := by
      have := (List.getElem?_eq_some_iff.1 hc).1
      rwa [List.length_set] at this
    rw [List.getElem?_set_self hl] at hc
    cases hc; exact absurd rfl hn
  · rw [List.getElem?_set_ne e] at hc
    exact ⟨fun e' => e e'.symm, hc⟩
theorem RepHeap.forget {h : Heap} (r : RepHeap G w h) (j : Nat) : RepHeap G w (h.set j []) :=
  ⟨by rw [List.length_set]; exact r.1, fun i cs hi hn => r.2.1 i cs (set_nil_get hi hn).2 hn, r.2.2⟩
theorem RepSt.forget {tmps : Array Value} (r : RepSt d G w st tmps) (j : Nat) : RepSt d G w { s := st.s, h := st.h.set j [], pb := st.pb } tmps := ⟨r.slot, r.path, r.heap.forget j, r.within⟩

/-- Elements appended to a slice that lies in the heap: it is given up, and a new one lies there. -/
theorem app_hs_rep {tmps : Array Value} (r : RepSt d G w st tmps) {t : Nat} (ht : t < tmps.size) (hpb : st.pb t = false) {P : Program} {T T' ty e e' : TypeId} {i : TypeInfo} {z : Value} (hu : P.underlying T = some (.slice e)) (hu' : P.underlying T' = some (.slice e')) (hi : P.info? e = some i) (hz : i.zero = some z)
    (hzs : z.cells.size = i.size) (hby : i.bytes ≤ 16384) {n j len : Nat} {cs : List Cell} {ys : List (List AV)} (hn : i.size = n) {V Y : Value} (hV : RepA G.S w G.μ (.hs n j 0 len) V) (hcs : st.h[j]? = some cs) (hcn : cs ≠ []) (hle : len * n ≤ cs.length)
    (hY : RepA G.S w G.μ (.sl n ys) Y) (hys : ys ≠ []) (hm : len + ys.length ≤ maxApp) :
    ∃ V1 w1 G2, (Builtin.append_ #[T, T'] ty #[V, Y]).run P w = .ok V1 w1 ∧ RepSt d G2 w1 { s := ups st.s [(t, .c (.v (.hs n st.h.length 0 (len + ys.length))))], h := hsM st.h j (len * n) cs ys, pb := addPb st.pb [(t, .c (.v (.hs n st.h.length 0 (len + ys.length))))] } (putT tmps (some t) V1) ∧ Fr d G w G2 w1 := by
  have hyn : ∀ x ∈ ys, x.length = n := by
    cases hY with
    | slN => intro x hx; cases hx
    | slE => intro x hx; cases hx
    | sl _ _ _ _ hn => exact hn
  obtain ⟨news, hs, hy, hnl⟩ := src_rep (P := P) hu' hY
  have hpos : 0 < ys.length := by cases ys with | nil => exact absurd rfl hys | cons y l => exact Nat.succ_pos _
  obtain ⟨b, arr, Tb, h1, h2, h3, h4, h5⟩ := r.heap.2.1 j cs hcs hcn
  cases hV with
  | hs _ _ cap hμ hcap hzb =>
  rename_i b'
  rw [h1] at hμ; cases hμ
  rw [Nat.zero_add, szB_block h3] at hzb
  subst hn
  have hlen := h5.len
  have hold : RepC G.S w G.μ ((cs.map Cell.get).take (len * i.size)) (arr.toList.take (len * i.size)) := by
    have := h5.gets.take (len * i.size)
    rwa [List.take_take, Nat.min_eq_left hle] at this
  have hol : (arr.toList.take (len * i.size)).length = len * i.size := by rw [List.length_take, Array.length_toList]; omega
  have hrep : RepC G.S w G.μ ((cs.map Cell.get).take (len * i.size) ++ ys.flatten) (arr.toList.take (len * i.size) ++ news) := hold.append hy
  have hrl := hrep.length
  have hnews : news.length = ys.length * i.size := by rw [← hy.length, flatten_len hyn]
  have hμl : G.μ.length = st.h.length := r.heap.1
  have hm' : len + ys.length ≤ 2147483648 := hm
  by_cases hroom : len + ys.length ≤ cap
  · have hle2 : len * i.size + news.length ≤ arr.size := by
      rw [hnews, ← Nat.add_mul]; exact Nat.le_trans (Nat.mul_le_mul_right _ hroom) hzb
    have hth := there_block h3 (len * i.size) news.length hle2
    have hrun := run_append_room_src (P := P) w T T' ty e i hu hi b 0 len cap Y ys.length news hs hroom (fun j hj => by simpa using (hth j hj).1) (fun j hj => by simpa using (hth j hj).2)
    rw [Nat.zero_add] at hrun
    obtain ⟨arr', a1, a2, a3⟩ := heap_setCells b news (len * i.size) w arr h3 hle2
    obtain ⟨s1, s2, s3⟩ := same_setCells b news (len * i.size) w
    have hext0 : Ext G.S w G.μ G.S (w.setCells b (len * i.size) news) G.μ := ext_setCells h3 hle2 (by omega)
    let G2 : Gh := { S := G.S, O := fun c => if c = b then .hb st.h.length else G.O c, μ := G.μ ++ [b] }
    have hμ : ∀ (i b' : Nat), G.μ[i]? = some b' → (G.μ ++ [b])[i]? = some b' := fun i b' h => by
      rw [List.getElem?_append_left (List.getElem?_eq_some_iff.1 h).1]; exact h
    have hext : Ext G.S w G.μ G2.S (w.setCells b (len * i.size) news) G2.μ := ⟨fun _ => Nat.le_refl _, hext0.row, hμ, hext0.sz⟩
    have hsame : ∀ c, c ≠ b → SameB G w G2 (w.setCells b (len * i.size) news) c := fun c hc => ⟨heap_setCells_other b news _ w hc, rfl, by show (if c = b then _ else _) = _; rw [if_neg hc]⟩
    have hne : ∀ (c : Nat) (p : Owner), G.O c = p → p ≠ .hb j → c ≠ b := fun c p hc hp e => hp (by rw [← hc, e, h2])
    have hO2 : G2.O b = .hb st.h.length := by show (if b = b then _ else _) = _; rw [if_pos rfl]
    have hheap : RepHeap G2 (w.setCells b (len * i.size) news) (hsM st.h j (len * i.size) cs ys) := by
      unfold hsM
      refine ⟨by show (G.μ ++ [b]).length = _; simp [hμl], fun k c hc hcn => ?_, fun g l e => RepA.mono hext (r.heap.2.2 g l e)⟩
      rcases Nat.lt_or_ge k st.h.length with hk | hk
      · rw [List.getElem?_append_left (by rw [List.length_set]; exact hk)] at hc
        obtain ⟨hkj, hc⟩ := set_nil_get hc hcn
        obtain ⟨b', arr2, T', g1, g2, g3, g4, g5⟩ := r.heap.2.1 k c hc hcn
        have hb' := hne b' _ g2 (by simpa using hkj)
        obtain ⟨e1, e2, e3⟩ := hsame b' hb'
        exact ⟨b', arr2, T', hμ k b' g1, e3.trans g2, e1.trans g3, e2.trans g4, g5.mono' hext (fun k c' _ ho => hsame c' (hne c' _ ho (by simp)))⟩
      · rw [List.getElem?_append_right (by rw [List.length_set]; exact hk), List.length_set] at hc
        have hk' : k = st.h.length := by
          rcases Nat.eq_zero_or_pos (k - st.h.length) with e | e
          · omega
          · rw [List.getElem?_eq_none (by simp; omega)] at hc; cases hc
        subst hk'
        simp only [Nat.sub_self, List.getElem?_cons_zero, Option.some.injEq] at hc
        subst hc
        refine ⟨b, arr', Tb, by show (G.μ ++ [b])[st.h.length]? = some b; rw [← hμl]; simp, hO2, a1, h4, tail_of (hrep.mono hext) ?_⟩
        rw [hrl, List.length_append, hol, a2, spliceV, List.take_append_of_le_length (by simp; omega), List.take_of_length_le (by simp; omega)]
    refine ⟨_, _, G2, hrun, ?_, ⟨s1, s2, s3, by rw [size_setCells]; exact Nat.le_refl _, hext, fun c hc hq => hsame c (fun e => by subst e; rw [h2] at hq; simp [quiet] at hq)⟩⟩
    refine r.next hext (some t) _ (fun _ e => by cases e; exact ht) (by simp [freeDst, hpb]) _ _ (fun _ e => by cases e; simp) (fun t' s hm => ?_) (fun _ _ _ hm => by simp at hm) (fun k hk c _ hown => hsame c ?_) hheap (fun c hc => ?_)
    · simp only [List.mem_cons, Prod.mk.injEq, List.not_mem_nil, or_false] at hm
      obtain ⟨rfl, rfl⟩ := hm
      show RepA _ _ _ _ ((tmps.setIfInBounds t' _).getD t' undef)
      rw [getD_put _ _ _ _ ht, if_pos rfl]
      exact RepA.hs 0 _ cap (by show (G.μ ++ [b])[st.h.length]? = some b; rw [← hμl]; simp) hroom (by rw [Nat.zero_add, szB_block a1, a3]; exact hzb)
    · rcases hown with h | ⟨j, h⟩
      · exact hne c _ h (by simp)
      · exact hne c _ h (by simp)
    · have hc' : G.S c ≠ 0 := hc
      have hcb : c ≠ b := fun e => by rw [e] at hc'; exact hc' h4
      obtain ⟨ar, T', fz, h1, h2⟩ := r.within c hc'
      exact ⟨ar, T', fz, by rw [heap_setCells_other b news _ w hcb]; exact h1, h2⟩
  · have hfit : Builtin.nextslicecap (len + ys.length) cap * i.bytes ≤ 281474976710656 := by
      refine growslice_fits_wide (by omega) (Nat.le_trans (Nat.mul_le_mul (show _ ≤ 2684354752 by omega) hby) (by decide))
    have hle0 : len * i.size ≤ arr.size := by omega
    have hrow : row? w b 0 (len * i.size) = some (arr.toList.take (len * i.size)) := by
      rw [row?_of_block h3 0 _ (by omega), List.drop_zero]
    have hfc : (Builtin.firstCells i.size len (.slice (some ⟨b, 0, none⟩) len cap)).run P w.drew = .ok (arr.toList.take (len * i.size)).toArray w.drew :=
      run_firstCells_some w.drew i.size len ⟨b, 0, none⟩ len cap _ (by rw [hol]) (fun j v hj => by rw [Addr.add_lit]; exact row?_cell hrow hj)
    have hrun := run_append_grow_src (P := P) w T T' ty e i z hu hi hz (some ⟨b, 0, none⟩) len cap _ hfc Y ys.length news hs (by omega) (by omega) hfit
    have hge := grownCap_ge w (len + ys.length) cap e
    have rd : RepSt d G w.drew st tmps := r.next (w' := w.drew) ext_drew none undef (fun _ e => by cases e) rfl [] _ (fun _ e => by cases e) (fun _ _ hm => by cases hm) (fun _ _ _ hm => by cases hm) (fun _ _ _ _ _ => ⟨rfl, rfl, rfl⟩) (r.heap.mono' ext_drew rfl (fun _ _ _ _ => ⟨rfl, rfl, rfl⟩) (fun _ _ _ _ _ => ⟨rfl, rfl, rfl⟩)) r.within
    have rf := rd.forget j
    have hrep' : RepC G.S w.drew G.μ ((cs.map Cell.get).take (len * i.size) ++ ys.flatten) (arr.toList.take (len * i.size) ++ news) := hrep.mono ext_drew
    have hsl : (st.h.set j []).length = st.h.length := List.length_set
    obtain ⟨hr, hf⟩ := new_heapX (a := { tmps := tmps, defers := [] }) rf ht hpb (cs := ((cs.map Cell.get).take (len * i.size) ++ ys.flatten).map Cell.v)
      (arr := (arr.toList.take (len * i.size) ++ news).toArray ++ Builtin.zeroCells z.cells (grownCap w (len + ys.length) cap e - (len + ys.length))) e
      (tail_of hrep' (by rw [hrl, Array.toList_append, List.take_append_of_le_length (by simp), List.take_of_length_le (by simp)]))
      (x := .hs i.size st.h.length 0 (len + ys.length)) (v := .slice (some ⟨w.heap.size, 0, none⟩) (len + ys.length) (grownCap w (len + ys.length) cap e))
      (by
        refine RepA.hs 0 (len + ys.length) _ ?_ hge ?_
        · show (G.μ ++ [w.heap.size])[st.h.length]? = some w.heap.size
          rw [← hμl]; simp
        · rw [show w.heap.size = w.drew.heap.size from rfl, szB_block (heap_alloc_new w.drew _), Array.size_append, size_zeroCells, hzs, List.size_toArray, List.length_append, hol, hnews, Nat.zero_add, ← Nat.add_mul, ← Nat.add_mul]
          exact Nat.mul_le_mul_right _ (by omega))
    exact ⟨_, _, _, hrun, hr, fr_drew.trans hf⟩

end
end Go.Sh

/- Built-in functions, panics. -/
namespace Go.Sh
open Go
set_option linter.unusedVariables false
set_option linter.unusedSimpArgs false

/-- The step panics. -/
def Pans (P : Program) (d : Nat) (G : Gh) (w : World) (a : Act) (o : Oper) (x : AV) (h2 : Heap) : Prop :=
  ∀ (next : Act → World → Prop) (Q : Exit → Act → World → Prop),
    (∀ G' w' v, RepA G'.S w' G'.μ x v → RepHeap G' w' h2 → Within G' w' → Fr d G w G' w' → Q (.panic [{ v, recovered := false }]) a w') → o.wp P a w next Q

section
variable {ρ : Type} {E : Env} {H : FHint} {call : Nat → List AV → Heap → R} {d : Nat} {G : Gh} {w : World} {st : St} {a : Act} {o : Oper} {look : Nat → Slot} {h0 h' : Heap} {us : List (Nat × Slot)}

theorem run_builtin (P : Program) {c : Call} {b : Builtin} (ho : o.op = .call c) (hb : c.callee = .builtin b) : (execOp a.eval o).run P w = (builtin b c.argTypes o.type (c.args.map fun | .const _ => true | _ => false) (c.args.map a.eval)).run P w := by
  unfold execOp
  rw [ho]
  simp only [resolve, hb, Sem.run_bind, Sem.run_pure, Result.andThen_ok]
  rfl

theorem arr1 {α : Type} {l : Array α} {x : α} (h : l.toList = [x]) : l = #[x] := Array.ext' (by simpa using h)
theorem arr2 {α : Type} {l : Array α} {x y : α} (h : l.toList = [x, y]) : l = #[x, y] := Array.ext' (by simpa using h)

theorem core_builtin (ok : E.Ok) (r : RepSt d G w st a.tmps) (hl : ∀ t, look t = st.s t ∨ look t = .dead) (hd : ∀ t, o.dst = some t → t < a.tmps.size) (hpb : freeDst st.pb o.dst = true) {c : Call} {b : Builtin} (ho : o.op = .call c) (hb : c.callee = .builtin b) (hna : (isApp b && dstIn H.hb o.dst) = false)
    (hc : core E H call o look h0 kD kpD = some (.inl (us, h'))) : Goes E.P d G w st a o us st.h := by
  unfold core at hc
  rw [ho] at hc
  simp only [hb, hna, cond_false] at hc
  have hrun0 := run_builtin (a := a) (w := w) E.P ho hb
  have hlk := look_ok r hl
  unfold builtinK at hc
  split at hc
  · -- len
    rename_i x T hx hT
    rw [Option.bind_eq_some_iff] at hc; obtain ⟨v, hv, hc⟩ := hc
    rw [Option.bind_eq_some_iff] at hc; obtain ⟨n, hn, hc⟩ := hc
    cases someC hc
    refine goes_val (v := .int .i64 n) r hd hpb ?_ (.lit rfl)
    rw [hrun0, arr1 hx, arr1 hT]
    simp only [builtin, Sem.run_bind, Array.map, List.map_toArray, List.map_cons, List.map_nil]
    have := lenA_rep (w := w) (t := o.type) ok hn (rdA_rep hlk hv)
    simp [builtin, this]
  · -- append
    rename_i x y T T' hx hT
    rw [Option.bind_eq_some_iff] at hc; obtain ⟨n, hn, hc⟩ := hc
    obtain ⟨hcond, hc⟩ := condE hc
    rw [Option.bind_eq_some_iff] at hc; obtain ⟨bv, hbv, hc⟩ := hc
    rw [Option.bind_eq_some_iff] at hc; obtain ⟨ys, hys, hc⟩ := hc
    rw [Option.bind_eq_some_iff] at hc; obtain ⟨s, hs, hc⟩ := hc
    have e := slOf_eq hys; subst e
    have hY := rdA_rep hlk hbv
    simp only [Bool.and_eq_true] at hcond
    obtain ⟨⟨⟨hc1, hc2⟩, hc3⟩, hc4⟩ := hcond
    obtain ⟨t, hdt⟩ := Option.isSome_iff_exists.1 hc1
    rw [hdt] at hpb
    have hpb' : st.pb t = false := by simpa [freeDst] using hpb
    obtain ⟨el, i, hund, hi, hsz, hti⟩ := elemSize_ok ok hn
    obtain ⟨e', hund'⟩ : ∃ e', E.P.underlying T' = some (.slice e') := by
      cases h : E.ty T' with
      | none => rw [h] at hc3; cases hc3
      | some j =>
        rw [h] at hc3
        simp only at hc3
        split at hc3
        · rename_i e' he; exact ⟨e', by rw [(ok.ty _ _ h).und, he]⟩
        · cases hc3
    have hbz : i.bytes ≤ 16384 ∧ i.zero.length = n := by
      cases h : E.ty T with
      | none => rw [h] at hc4; cases hc4
      | some j =>
        rw [h] at hc4
        simp only at hc4
        have hj := (ok.ty _ _ h).und
        rw [hund] at hj
        have hj := Option.some.inj hj
        rw [← hj] at hc4
        simp only [hi, Bool.and_eq_true] at hc4
        exact ⟨bleE hc4.1, beqE hc4.2⟩
    obtain ⟨ti, z, e1, e2, e3, e4, e5, e6, e7, e8⟩ := hti.info
    have hzs : z.cells.size = ti.size := by
      have := congrArg List.length e5
      rw [e2]; simpa [e8] using this
    have fin : ∀ {G1 : Gh} {st1 : St} {us1 : List (Nat × Slot)} {es : List (List AV)}, RepSt d G1 w st1 a.tmps → Fr d G w G1 w → st1.pb t = false → RepCell G1 w (.sl d t) (.own n es) (a.eval x) → RepA G1.S w G1.μ (.sl n ys) (a.eval y) → es.length + ys.length ≤ maxApp →
        ups st.s us1 = ups st1.s [(t, .c (.own n (es ++ ys)))] → st1.h = st.h → addPb st.pb us1 = addPb st1.pb [(t, .c (.own n (es ++ ys)))] → Goes E.P d G w st a o us1 st.h := by
      intro G1 st1 us1 es r1 hf hp hcell hy1 hm hs1 hh1 hp1
      obtain ⟨V1, w1, G2, q1, q2, q3⟩ := app_rep (ty := o.type) r1 (hd t hdt) hp hund hund' e1 e4 hzs (by rw [e3]; exact hbz.1) (show ti.size = n by rw [e2]; exact hsz) hcell hy1 hm
      refine goes_run (v := V1) (w' := w1) ?_ ?_ (hf.trans q3)
      · rw [hrun0, arr2 hx, arr2 hT]
        simp only [List.map_toArray, List.map_cons, List.map_nil]
        simp [builtin, q1]
      · rw [hdt, hs1, hp1, ← hh1]; exact q2
    split at hc
    · rename_i m
      obtain ⟨hcond, hc⟩ := condE hc
      simp only [Bool.and_eq_true] at hcond
      cases someC hc
      obtain ⟨k, hrs, -⟩ := rdS_rep hlk hs
      refine fin (es := []) r (Fr.refl _ _ _) hpb' (.inl ⟨hrs, rfl⟩) hY (by simpa using bleE hcond.2) (by rw [hdt]; rfl) rfl (by rw [hdt]; rfl)
    · rename_i m es
      split at hc
      · rename_i u
        obtain ⟨hcond, hc⟩ := condE hc
        simp only [Bool.and_eq_true] at hcond
        have hm := beqE hcond.1; subst hm
        cases someC hc
        have hsu := look_eq hl (Option.some.inj hs) (by simp)
        obtain ⟨G1, r1, k1, k2, k3, k4, _⟩ := release r hsu (.sl d t)
        refine fin (es := es) r1 k2 hpb' k1 (by rw [k3, k4]; exact hY) (bleE hcond.2) (by rw [hdt]; rfl) rfl (by rw [hdt]; rfl)
      · cases hc
    · cases hc
  · -- max
    rename_i x xs T ts hx hT
    rw [Option.bind_eq_some_iff] at hc; obtain ⟨v, hv, hc⟩ := hc
    rw [Option.bind_eq_some_iff] at hc; obtain ⟨l, hl', hc⟩ := hc
    rw [Option.bind_eq_some_iff] at hc; obtain ⟨m, hm, hc⟩ := hc
    cases someC hc
    obtain ⟨V, q1, q2⟩ := maxs_rep (E := E) l v m _ _ hm (rdA_rep hlk hv) (rdAs_rep hlk _ _ _ hl')
    refine goes_val r hd hpb ?_ q2
    rw [hrun0]
    have : (c.args.map a.eval).toList = a.eval x :: xs.map a.eval := by rw [Array.toList_map, hx, List.map_cons]
    simp [builtin, Builtin.max_, hx, q1]
  · rename_i x xs T ts hx hT
    rw [Option.bind_eq_some_iff] at hc; obtain ⟨v, hv, hc⟩ := hc
    rw [Option.bind_eq_some_iff] at hc; obtain ⟨l, hl', hc⟩ := hc
    rw [Option.bind_eq_some_iff] at hc; obtain ⟨m, hm, hc⟩ := hc
    cases someC hc
    obtain ⟨V, q1, q2⟩ := mins_rep (E := E) l v m _ _ hm (rdA_rep hlk hv) (rdAs_rep hlk _ _ _ hl')
    refine goes_val r hd hpb ?_ q2
    rw [hrun0]
    have : (c.args.map a.eval).toList = a.eval x :: xs.map a.eval := by rw [Array.toList_map, hx, List.map_cons]
    simp [builtin, Builtin.min_, hx, q1]
  · rw [Option.bind_eq_some_iff] at hc; obtain ⟨v, hv, hc⟩ := hc
    split at hc
    · cases hc
    · cases hc
  · cases hc

theorem core_appendH (ok : E.Ok) (r : RepSt d G w st a.tmps) (hl : ∀ t, look t = st.s t ∨ look t = .dead) (hd : ∀ t, o.dst = some t → t < a.tmps.size) (hpb : freeDst st.pb o.dst = true) {c : Call} (ho : o.op = .call c) (hb : c.callee = .builtin .append)
    (hhb : dstIn H.hb o.dst = true) (hh : h0 = st.h) (hc : core E H call o look h0 kD kpD = some (.inl (us, h'))) : Goes E.P d G w st a o us h' := by
  unfold core at hc
  rw [ho] at hc
  simp only [hb, hhb, isApp, Bool.and_self, cond_true] at hc
  have hrun0 := run_builtin (a := a) (w := w) E.P ho hb
  have hlk := look_ok r hl
  unfold appendH at hc
  split at hc
  · rename_i u y T T' dd hx hT hdt
    rw [Option.bind_eq_some_iff] at hc; obtain ⟨n, hn, hc⟩ := hc
    obtain ⟨hcond, hc⟩ := condE hc
    rw [Option.bind_eq_some_iff] at hc; obtain ⟨bv, hbv, hc⟩ := hc
    rw [Option.bind_eq_some_iff] at hc; obtain ⟨ys, hys, hc⟩ := hc
    have e := slOf_eq hys; subst e
    have hY := rdA_rep hlk hbv
    simp only [Bool.and_eq_true] at hcond
    obtain ⟨⟨⟨hc2, hc1⟩, hc3⟩, hc4⟩ := hcond
    rw [hdt] at hpb
    have hpb' : st.pb dd = false := by simpa [freeDst] using hpb
    obtain ⟨el, i, hund, hi, hsz, hti⟩ := elemSize_ok ok hn
    obtain ⟨e', hund'⟩ : ∃ e', E.P.underlying T' = some (.slice e') := by
      cases h : E.ty T' with
      | none => rw [h] at hc3; cases hc3
      | some j =>
        rw [h] at hc3
        simp only at hc3
        split at hc3
        · rename_i e' he; exact ⟨e', by rw [(ok.ty _ _ h).und, he]⟩
        · cases hc3
    have hbz : i.bytes ≤ 16384 ∧ i.zero.length = n := by
      cases h : E.ty T with
      | none => rw [h] at hc4; cases hc4
      | some j =>
        rw [h] at hc4
        simp only at hc4
        have hj := (ok.ty _ _ h).und
        rw [hund] at hj
        have hj := Option.some.inj hj
        rw [← hj] at hc4
        simp only [hi, Bool.and_eq_true] at hc4
        exact ⟨bleE hc4.1, beqE hc4.2⟩
    obtain ⟨ti, z, e1, e2, e3, e4, e5, e6, e7, e8⟩ := hti.info
    have hzs : z.cells.size = ti.size := by
      have := congrArg List.length e5
      rw [e2]; simpa [e8] using this
    split at hc
    · rename_i m es hlu
      obtain ⟨hcond, hc9⟩ := condE hc
      clear hc
      simp only [Bool.and_eq_true] at hcond
      have hm := beqE hcond.1.1; subst hm
      have hes : es = [] := by simpa using hcond.1.2
      subst hes
      cases someC hc9
      subst hh
      have hsu := look_eq hl hlu (by simp)
      obtain ⟨G1, r1, k1, k2, k3, k4, _⟩ := release r hsu (.sl d dd)
      obtain ⟨V1, w1, G2, q1, q2, q3⟩ := app_heap_rep (ty := o.type) r1 (hd dd hdt) hpb' hund hund' e1 e4 hzs (by rw [e3]; exact hbz.1) (show ti.size = m by rw [e2]; exact hsz) k1 (by rw [k3, k4]; exact hY) (bleE hcond.2)
      refine goes_run (v := V1) (w' := w1) ?_ ?_ (k2.trans q3)
      · rw [hrun0, arr2 hx, arr2 hT]
        simp only [List.map_toArray, List.map_cons, List.map_nil]
        have q1 : (Builtin.append_ #[T, T'] o.type #[a.eval (.tmp u), a.eval y]).run E.P w = .ok V1 w1 := q1
        simp [builtin, q1]
      · rw [hdt]; exact q2
    · rename_i hlu
      obtain ⟨hcond, hc9⟩ := condE hc
      clear hc
      cases someC hc9
      subst hh
      have hru := hlk u
      rw [hlu] at hru
      have hru : RepA G.S w G.μ (.lit (.slice none 0 0)) (a.eval (.tmp u)) := hru
      obtain ⟨V1, w1, G2, q1, q2, q3⟩ := app_heap_rep (ty := o.type) r (hd dd hdt) hpb' hund hund' e1 e4 hzs (by rw [e3]; exact hbz.1) (show ti.size = n by rw [e2]; exact hsz) (V := a.eval (.tmp u)) (.inl ⟨hru.litE, rfl⟩) hY (bleE hcond)
      refine goes_run (v := V1) (w' := w1) ?_ ?_ q3
      · rw [hrun0, arr2 hx, arr2 hT]
        simp only [List.map_toArray, List.map_cons, List.map_nil]
        have q1 : (Builtin.append_ #[T, T'] o.type #[a.eval (.tmp u), a.eval y]).run E.P w = .ok V1 w1 := q1
        simp [builtin, q1]
      · rw [hdt]; exact q2
    · rename_i m j off len hlu
      obtain ⟨hcond, hc9⟩ := condE hc
      clear hc
      rw [Option.bind_eq_some_iff] at hc9; obtain ⟨cs, hcs, hc9⟩ := hc9
      obtain ⟨hcond2, hc8⟩ := condE hc9
      clear hc9
      cases someC hc8
      subst hh
      simp only [Bool.and_eq_true] at hcond hcond2
      have hm := beqE hcond.1.1.1; subst hm
      have ho0 := beqE hcond.1.1.2; subst ho0
      have hys : ys ≠ [] := fun e => by rw [e] at hcond; simp at hcond
      have hcn : cs ≠ [] := fun e => by rw [e] at hcond2; simp at hcond2
      have hru := hlk u
      rw [hlu] at hru
      have hru : RepA G.S w G.μ (.hs m j 0 len) (a.eval (.tmp u)) := hru
      obtain ⟨V1, w1, G2, q1, q2, q3⟩ := app_hs_rep (ty := o.type) r (hd dd hdt) hpb' hund hund' e1 e4 hzs (by rw [e3]; exact hbz.1) (show ti.size = m by rw [e2]; exact hsz) hru hcs hcn (bleE hcond2.2) hY hys (bleE hcond.2)
      refine goes_run (v := V1) (w' := w1) ?_ ?_ q3
      · rw [hrun0, arr2 hx, arr2 hT]
        simp only [List.map_toArray, List.map_cons, List.map_nil]
        have q1 : (Builtin.append_ #[T, T'] o.type #[a.eval (.tmp u), a.eval y]).run E.P w = .ok V1 w1 := q1
        simp [builtin, q1]
      · rw [hdt]; exact q2
    · cases hc
  · cases hc

theorem pans_run (r : RepSt d G w st a.tmps) {t : TypeId} {x : AV} {X : Value} (hrun : (execOp a.eval o).run E.P w = .halt (.panic X) w) (hx : RepA G.S w G.μ (.ifc t x) X) : Pans E.P d G w a o (.ifc t x) st.h := by
  intro next Q h
  unfold Oper.wp
  rw [hrun, Oper.upon_panic]
  exact h G w X hx r.heap r.within (Fr.refl _ _ _)

theorem run_panic {P : Program} {t : TypeId} {v : Value} : (Instr.panic (.iface t v)).run P w = .halt (.panic (.iface t v)) w := by
  simp [Instr.panic, goPanic]

theorem core_panic (r : RepSt d G w st a.tmps) (hl : ∀ t, look t = st.s t ∨ look t = .dead) {x : Operand} (hh : h0 = st.h) (ho : o.op = .panic x) {p : AV} (hc : core E H call o look h0 kD kpD = some (.inr (p, h'))) : Pans E.P d G w a o p h' := by
  unfold core at hc
  rw [ho] at hc
  simp only at hc
  rw [Option.bind_eq_some_iff] at hc; obtain ⟨v, hv, hc⟩ := hc
  split at hc
  · rename_i t y
    have hc := Sum.inr.inj (Option.some.inj hc); cases hc
    subst hh
    have hx := rdA_rep (look_ok r hl) hv
    refine pans_run r ?_ hx
    unfold execOp; rw [ho]
    cases e : a.eval x <;> rw [e] at hx <;> cases hx
    simp only [e, Sem.run_bind, run_panic]
    rfl
  · cases hc

theorem core_panic_b (r : RepSt d G w st a.tmps) (hl : ∀ t, look t = st.s t ∨ look t = .dead) (hh : h0 = st.h) {c : Call} {b : Builtin} (ho : o.op = .call c) (hb : c.callee = .builtin b) {p : AV} (hna : (isApp b && dstIn H.hb o.dst) = false) (hc : core E H call o look h0 kD kpD = some (.inr (p, h'))) : Pans E.P d G w a o p h' := by
  unfold core at hc
  rw [ho] at hc
  simp only [hb, hna, cond_false] at hc
  have hrun0 := run_builtin (a := a) (w := w) E.P ho hb
  unfold builtinK at hc
  split at hc
  · rw [Option.bind_eq_some_iff] at hc; obtain ⟨v, hv, hc⟩ := hc
    rw [Option.bind_eq_some_iff] at hc; obtain ⟨n, hn, hc⟩ := hc
    cases hc
  · rw [Option.bind_eq_some_iff] at hc; obtain ⟨n, hn, hc⟩ := hc
    obtain ⟨hcond, hc⟩ := condE hc
    rw [Option.bind_eq_some_iff] at hc; obtain ⟨bv, hbv, hc⟩ := hc
    rw [Option.bind_eq_some_iff] at hc; obtain ⟨ys, hys, hc⟩ := hc
    rw [Option.bind_eq_some_iff] at hc; obtain ⟨s, hs, hc⟩ := hc
    split at hc
    · obtain ⟨_, hc⟩ := condE hc; cases hc
    · split at hc
      · obtain ⟨_, hc⟩ := condE hc; cases hc
      · cases hc
    · cases hc
  · rw [Option.bind_eq_some_iff] at hc; obtain ⟨v, hv, hc⟩ := hc
    rw [Option.bind_eq_some_iff] at hc; obtain ⟨l, hl', hc⟩ := hc
    rw [Option.bind_eq_some_iff] at hc; obtain ⟨m, hm, hc⟩ := hc
    cases hc
  · rw [Option.bind_eq_some_iff] at hc; obtain ⟨v, hv, hc⟩ := hc
    rw [Option.bind_eq_some_iff] at hc; obtain ⟨l, hl', hc⟩ := hc
    rw [Option.bind_eq_some_iff] at hc; obtain ⟨m, hm, hc⟩ := hc
    cases hc
  · rename_i x T hx hT
    rw [Option.bind_eq_some_iff] at hc; obtain ⟨v, hv, hc⟩ := hc
    split at hc
    · rename_i t y
      have hc := Sum.inr.inj (Option.some.inj hc); cases hc
      subst hh
      have hx' := rdA_rep (look_ok r hl) hv
      refine pans_run r ?_ hx'
      rw [hrun0, arr1 hx]
      cases e : a.eval x <;> rw [e] at hx' <;> cases hx'
      simp [builtin, e, run_panic]
    · cases hc
  · cases hc

end
end Go.Sh

/- Calls. -/
namespace Go.Sh
open Go
set_option linter.unusedVariables false
set_option linter.unusedSimpArgs false

/-- What a call ends in. -/
def EndOk (d : Nat) (G0 : Gh) (w0 : World) (out : Out) (h' : Heap) (e : Ending) (w' : World) : Prop :=
  ∃ G', Fr d G0 w0 G' w' ∧ RepHeap G' w' h' ∧ Within G' w' ∧
    match e, out with
    | .returned v, .ret a => RepA G'.S w' G'.μ a v
    | .returned v, .own n es => ∃ t, RepCell G' w' (.sl d t) (.own n es) v
    | .panicked chain, .pan a => ∃ v, chain = [{ v, recovered := false }] ∧ RepA G'.S w' G'.μ a v
    | _, _ => False

def Callable (P : Program) (f : Nat) : Prop := ∃ fn, P.funcs[f]? = some fn ∧ (fn.name == "runtime.NumGoroutine") = false ∧ fn.body.isSome = true

def Ends (P : Program) (f : Nat) (args : List AV) (h : Heap) (out : Out) (h' : Heap) : Prop :=
  Callable P f ∧ ∀ d G w (argv : Array Value), RepL G.S w G.μ args argv.toList → RepHeap G w h → Within G w → Calls P f argv w (EndOk d G w out h')

def SoundC (P : Program) (call : Nat → List AV → Heap → R) : Prop :=
  ∀ f args h out h', call f args h = some (out, h') → Ends P f args h out h'

section
variable {ρ : Type} {E : Env} {H : FHint} {call : Nat → List AV → Heap → R} {d : Nat} {G : Gh} {w : World} {st : St} {a : Act} {o : Oper} {look : Nat → Slot} {h0 h' : Heap} {us : List (Nat × Slot)}

theorem run_callFunc {P : Program} {f : Nat} (hc : Callable P f) (args : Array Value) : (callFunc f args).run P w = .ok (.enter f args) w := by
  obtain ⟨fn, h1, h2, h3⟩ := hc
  have h3' : fn.body.isNone = false := by cases hb : fn.body <;> simp_all
  have h2' : ¬ fn.name = "runtime.NumGoroutine" := by simpa using h2
  have h4 : ¬ fn.body = none := by intro e; rw [e] at h3; cases h3
  simp [callFunc, h1, h2', h4]

theorem run_call (P : Program) {c : Call} {x : Operand} (ho : o.op = .call c) (hb : c.callee = .value x) {f : Nat} {fv cv : Array Value} (hx : a.eval x = .func (.func f) fv cv) (hc : Callable P f) :
    (execOp a.eval o).run P w = .ok (.enter f (fv ++ c.args.map a.eval ++ cv)) w := by
  unfold execOp
  rw [ho]
  simp only [resolve, hb, Sem.run_bind, Sem.run_pure, Result.andThen_ok, hx, Deferred.ofValue, invoke, run_callFunc hc]

/-- What a call leaves behind, for its caller. -/
theorem after_call (r : RepSt d G w st a.tmps) (hd : ∀ t, o.dst = some t → t < a.tmps.size) (hpb : freeDst st.pb o.dst = true) {G1 : Gh} {w1 : World} {h1 : Heap} {v : Value} {s : Slot} (hf : ∀ b, b < w.heap.size → quiet (d + 1) (G.O b) = true → SameB G w G1 w1 b)
    (hx : Ext G.S w G.μ G1.S w1 G1.μ) (hh : RepHeap G1 w1 h1) (hw : Within G1 w1) (hs : ∀ t, o.dst = some t → RepSlot G1 w1 d t s v) (hnp : ∀ t off, s ≠ .path t off) :
    RepSt d G1 w1 { s := ups st.s (dstUp o.dst s), h := h1, pb := addPb st.pb (dstUp o.dst s) } (putT a.tmps o.dst v) := by
  refine r.next hx o.dst v hd hpb _ _ (fun t ht => dstUp_keys ht) (fun t x hm => ?_) (fun u t off hm => absurd (dstUp_mem hm).2.symm (hnp t off)) (fun i _ b hb ho => hf b hb ?_) hh hw
  · obtain ⟨ht, rfl⟩ := dstUp_mem hm
    rw [ht]
    rw [show (putT a.tmps (some t) v).getD t undef = v from by
      show (a.tmps.setIfInBounds t v).getD t undef = v
      rw [getD_put _ _ _ _ (hd t ht), if_pos rfl]]
    exact hs t ht
  · rcases ho with ho | ⟨c, ho⟩ <;> (rw [ho]; simp [quiet, Nat.blt_eq])

theorem out_cases {ρ : Type} {r : R} {k1 : AV → Heap → Option ρ} {k2 : Nat → List (List AV) → Heap → Option ρ} {k3 : AV → Heap → Option ρ} {res : ρ} (h : onOut r k1 k2 k3 = some res) :
    (∃ a h', r = some (.ret a, h') ∧ k1 a h' = some res) ∨ (∃ n es h', r = some (.own n es, h') ∧ k2 n es h' = some res) ∨ (∃ a h', r = some (.pan a, h') ∧ k3 a h' = some res) := by
  unfold onOut at h
  rw [Option.bind_eq_some_iff] at h
  obtain ⟨⟨out, h1⟩, h2, h3⟩ := h
  cases out with
  | ret a => exact .inl ⟨a, h1, h2, h3⟩
  | own n es => exact .inr (.inl ⟨n, es, h1, h2, h3⟩)
  | pan a => exact .inr (.inr ⟨a, h1, h2, h3⟩)

theorem condF {c : Bool} {x : Option ρ} {res : ρ} (h : (bif c then none else x) = some res) : x = some res := by
  cases c with
  | true => cases h
  | false => exact h

theorem sameH_some {h h' : Heap} {x : Option ρ} {res : ρ} (hs : sameH h h' x = some res) : h' = h ∧ x = some res := by
  unfold sameH at hs
  split at hs
  · exact ⟨by assumption, hs⟩
  · cases hs

theorem call_ret (r : RepSt d G w st a.tmps) (hd : ∀ t, o.dst = some t → t < a.tmps.size) (hpb : freeDst st.pb o.dst = true) {f : Nat} {argv : Array Value} {x : AV} {h1 : Heap} (hrun : (execOp a.eval o).run E.P w = .ok (.enter f argv) w)
    (hcl : Calls E.P f argv w (EndOk (d + 1) G w (.ret x) h1)) : Goes E.P d G w st a o (dstUp o.dst (.c (.v x))) h1 := by
  intro next Q hn
  unfold Oper.wp
  rw [hrun, Oper.upon_enter]
  refine hcl.mono fun e w1 he => ?_
  obtain ⟨G1, hf, hh, hw, hm⟩ := he
  cases e with
  | returned v => exact hn G1 w1 v (after_call r hd hpb hf.same hf.ext hh hw (fun _ _ => hm) (fun _ _ e => by cases e)) hf.inner
  | panicked chain => exact hm.elim
  | outgrown => exact hm.elim

theorem call_own (r : RepSt d G w st a.tmps) (hd : ∀ t, o.dst = some t → t < a.tmps.size) (hpb : freeDst st.pb o.dst = true) {f : Nat} {argv : Array Value} {n : Nat} {es : List (List AV)} {h1 : Heap} (hrun : (execOp a.eval o).run E.P w = .ok (.enter f argv) w)
    (hcl : Calls E.P f argv w (EndOk (d + 1) G w (.own n es) h1)) : Goes E.P d G w st a o (dstUp o.dst (.c (.own n es))) h1 := by
  intro next Q hn
  unfold Oper.wp
  rw [hrun, Oper.upon_enter]
  refine hcl.mono fun e w1 he => ?_
  obtain ⟨G1, hf, hh, hw, hm⟩ := he
  cases e with
  | returned v =>
    obtain ⟨t0, hm⟩ := hm
    obtain ⟨G2, k1, k2, k3, k4⟩ := reown (.sl d (o.dst.getD 0)) hm
    have hx : Ext G.S w G.μ G2.S w1 G2.μ := by rw [k2, k3]; exact hf.ext
    have hsame : ∀ b, b < w.heap.size → quiet (d + 1) (G.O b) = true → SameB G w G2 w1 b := fun b hb hq => by
      obtain ⟨e1, e2, e3⟩ := hf.same b hb hq
      obtain ⟨f1, f2, f3⟩ := k4 b (fun e => by rw [e3] at e; rw [e, quiet_sl] at hq; cases hq)
      exact ⟨f1.trans e1, f2.trans e2, f3.trans e3⟩
    have hx2 : Ext G1.S w1 G1.μ G2.S w1 G2.μ := by rw [k2, k3]; exact Ext.refl _ _ _
    exact hn G2 w1 v (after_call r hd hpb hsame hx (hh.mono' hx2 k3 (fun i b _ hb => k4 b (by rw [hb]; simp)) (fun i c b _ hb => k4 b (by rw [hb]; simp))) (fun b hb => by rw [k2] at hb ⊢; exact hw b hb)
      (fun t ht => by rw [ht] at k1; exact k1) (fun _ _ e => by cases e)) ⟨hf.os, hf.tape, hf.output, hf.size, hx, fun b hb hq => hsame b hb (quiet_succ hq)⟩
  | panicked chain => exact hm.elim
  | outgrown => exact hm.elim

theorem call_pan {f : Nat} {argv : Array Value} {x : AV} {h1 : Heap} (hrun : (execOp a.eval o).run E.P w = .ok (.enter f argv) w) (hcl : Calls E.P f argv w (EndOk (d + 1) G w (.pan x) h1)) : Pans E.P d G w a o x h1 := by
  intro next Q hn
  unfold Oper.wp
  rw [hrun, Oper.upon_enter]
  refine hcl.mono fun e w1 he => ?_
  obtain ⟨G1, hf, hh, hw, hm⟩ := he
  cases e with
  | returned v => exact hm.elim
  | panicked chain =>
    obtain ⟨v, rfl, hv⟩ := hm
    exact hn G1 w1 v hv hh hw hf.inner
  | outgrown => exact hm.elim

/-- What the callee is, and its arguments. -/
theorem apply_rep (hs : SoundC E.P call) (r : RepSt d G w st a.tmps) (hl : ∀ t, look t = st.s t ∨ look t = .dead) {c : Call} {x : Operand} (ho : o.op = .call c) (hb : c.callee = .value x) {fv : AV} (hfv : rdA E 0 look x = some fv) {args : List AV} (hargs : rdAs E look c.argTypes.toList c.args.toList = some args)
    {out : Out} {h1 : Heap} (hc : applyV call fv args st.h = some (out, h1)) : ∃ f argv, (execOp a.eval o).run E.P w = .ok (.enter f argv) w ∧ Calls E.P f argv w (EndOk (d + 1) G w out h1) := by
  unfold applyV at hc
  split at hc
  · rename_i f first caps
    have hf := rdA_rep (look_ok r hl) hfv
    have ha := rdAs_rep (look_ok r hl) _ _ _ hargs
    obtain ⟨hcal, hends⟩ := hs _ _ _ _ _ hc
    cases e : a.eval x <;> rw [e] at hf <;> cases hf
    rename_i fv cv hfirst hcaps
    refine ⟨f, fv ++ c.args.map a.eval ++ cv, run_call E.P ho hb e hcal, hends (d + 1) G w _ ?_ r.heap r.within⟩
    simp only [Array.toList_append, Array.toList_map]
    exact (hfirst.append ha).append hcaps
  · cases hc

theorem core_call (hs : SoundC E.P call) (r : RepSt d G w st a.tmps) (hl : ∀ t, look t = st.s t ∨ look t = .dead) (hd : ∀ t, o.dst = some t → t < a.tmps.size) (hpb : freeDst st.pb o.dst = true) {c : Call} {x : Operand} (ho : o.op = .call c) (hb : c.callee = .value x)
    (hh : h0 = st.h) (hc : core E H call o look h0 kD kpD = some (.inl (us, h'))) : Goes E.P d G w st a o us h' ∧ (dstIn H.pure o.dst = true → h' = st.h) := by
  unfold core at hc
  rw [ho] at hc
  simp only [hb] at hc
  subst hh
  rw [Option.bind_eq_some_iff] at hc; obtain ⟨fv, hfv, hc⟩ := hc
  rw [Option.bind_eq_some_iff] at hc; obtain ⟨args, hargs, hc⟩ := hc
  cases hp : dstIn H.pure o.dst with
  | true =>
    rw [hp] at hc
    simp only [cond_true] at hc
    rcases out_cases hc with ⟨v, h1, e1, e2⟩ | ⟨n, es, h1, e1, e2⟩ | ⟨v, h1, e1, e2⟩
    · obtain ⟨hq, e3⟩ := sameH_some (condF e2); subst hq
      cases someC e3
      obtain ⟨f, argv, q1, q2⟩ := apply_rep hs r hl ho hb hfv hargs e1
      exact ⟨call_ret r hd hpb q1 q2, fun _ => rfl⟩
    · obtain ⟨hq, e3⟩ := sameH_some (condE e2).2; subst hq
      cases someC e3
      obtain ⟨f, argv, q1, q2⟩ := apply_rep hs r hl ho hb hfv hargs e1
      exact ⟨call_own r hd hpb q1 q2, fun _ => rfl⟩
    · cases e2
  | false =>
    rw [hp] at hc
    simp only [cond_false] at hc
    rcases out_cases hc with ⟨v, h1, e1, e2⟩ | ⟨n, es, h1, e1, e2⟩ | ⟨v, h1, e1, e2⟩
    · cases someC (condF e2)
      obtain ⟨f, argv, q1, q2⟩ := apply_rep hs r hl ho hb hfv hargs e1
      exact ⟨call_ret r hd hpb q1 q2, fun h => by cases h⟩
    · cases someC (condE e2).2
      obtain ⟨f, argv, q1, q2⟩ := apply_rep hs r hl ho hb hfv hargs e1
      exact ⟨call_own r hd hpb q1 q2, fun h => by cases h⟩
    · have := (condE e2).2; cases this

theorem core_call_pan (hs : SoundC E.P call) (r : RepSt d G w st a.tmps) (hl : ∀ t, look t = st.s t ∨ look t = .dead) {c : Call} {x : Operand} (ho : o.op = .call c) (hb : c.callee = .value x)
    (hh : h0 = st.h) {p : AV} (hc : core E H call o look h0 kD kpD = some (.inr (p, h'))) : Pans E.P d G w a o p h' ∧ dstIn H.pure o.dst = false := by
  unfold core at hc
  rw [ho] at hc
  simp only [hb] at hc
  subst hh
  rw [Option.bind_eq_some_iff] at hc; obtain ⟨fv, hfv, hc⟩ := hc
  rw [Option.bind_eq_some_iff] at hc; obtain ⟨args, hargs, hc⟩ := hc
  cases hp : dstIn H.pure o.dst with
  | true =>
    rw [hp] at hc
    simp only [cond_true] at hc
    rcases out_cases hc with ⟨v, h1, e1, e2⟩ | ⟨n, es, h1, e1, e2⟩ | ⟨v, h1, e1, e2⟩
    · obtain ⟨hq, e3⟩ := sameH_some (condF e2); subst hq
      cases e3
    · obtain ⟨hq, e3⟩ := sameH_some (condE e2).2; subst hq
      cases e3
    · cases e2
  | false =>
    rw [hp] at hc
    simp only [cond_false] at hc
    rcases out_cases hc with ⟨v, h1, e1, e2⟩ | ⟨n, es, h1, e1, e2⟩ | ⟨v, h1, e1, e2⟩
    · have := condF e2; cases this
    · have := (condE e2).2; cases this
    · have e2 := Sum.inr.inj (Option.some.inj (condE e2).2); cases e2
      obtain ⟨f, argv, q1, q2⟩ := apply_rep hs r hl ho hb hfv hargs e1
      exact ⟨call_pan q1 q2, rfl⟩

end
end Go.Sh

/- One operation, with its guard. -/
namespace Go.Sh
open Go
set_option linter.unusedVariables false
set_option linter.unusedSimpArgs false

section
variable {ρ : Type} {E : Env} {H : FHint} {call : Nat → List AV → Heap → R} {d : Nat} {G : Gh} {w : World} {st : St} {a : Act} {o : Oper} {look : Nat → Slot} {h0 h' : Heap} {us : List (Nat × Slot)} {nt : Nat}

theorem self_ok {x : Operand} (h : selfOk o = true) (ho : (∃ T f, o.op = .fieldAddr T x f) ∨ o.op = .nilCheck x) : ∀ t, x = .tmp t → o.dst ≠ some t := by
  rintro t rfl hd
  unfold selfOk at h
  rcases ho with ⟨T, f, ho⟩ | ho <;> (rw [ho] at h; simp [hd] at h)

theorem core_ok (ok : E.Ok) (hs : SoundC E.P call) (r : RepSt d G w st a.tmps) (hl : ∀ t, look t = st.s t ∨ look t = .dead) (hd : ∀ t, o.dst = some t → t < a.tmps.size) (hpb : freeDst st.pb o.dst = true) (hself : selfOk o = true)
    (hh : h0 = bif hR H o then st.h else []) (hc : core E H call o look h0 kD kpD = some (.inl (us, h'))) : Goes E.P d G w st a o us (bif hW H o then h' else st.h) := by
  have hW0 : hW H o = false → ∀ {x : Heap}, Goes E.P d G w st a o us st.h → Goes E.P d G w st a o us (bif hW H o then x else st.h) := fun e x h => by rw [e]; exact h
  cases hop : o.op with
  | move x =>
    refine hW0 (by unfold hW; rw [hop]) ?_
    cases htr : dstIn H.tr o.dst with
    | true => exact core_move_tr r hl hd hpb hop htr hc
    | false => exact core_move r hl hd hpb hop htr hc
  | assign x =>
    refine hW0 (by unfold hW; rw [hop]) ?_
    have hc' := hc
    unfold core at hc'
    rw [hop] at hc'
    simp only at hc'
    rw [Option.bind_eq_some_iff] at hc'; obtain ⟨s, hs', _⟩ := hc'
    by_cases hno : ∃ n es, s = .c (.own n es)
    · obtain ⟨n, es, rfl⟩ := hno
      exact core_assign_own r hl hd hpb hop hs' hc
    · exact core_assign r hl hd hpb hop hs' (fun n es e => hno ⟨n, es, e⟩) hc
  | pick c x y => exact hW0 (by unfold hW; rw [hop]) (core_pick r hl hd hpb hop hc)
  | alloc T =>
    have e : hW H o = dstIn H.hb o.dst := by unfold hW; rw [hop]
    have e2 : hR H o = dstIn H.hb o.dst := by unfold hR; rw [hop]
    rw [e]
    refine core_alloc ok r (fun hm => ?_) hd hpb hop hc
    have hc' := hc
    unfold core at hc'
    rw [hop] at hc'
    simp only at hc'
    rw [Option.bind_eq_some_iff] at hc'; obtain ⟨i, hi, hc'⟩ := hc'
    cases hdt : o.dst with
    | none => rw [hdt] at hc'; cases hc'
    | some t =>
      rw [hdt] at hm
      rw [hh, e2, hdt, show dstIn H.hb (some t) = true from hm]; rfl
  | box T x =>
    have e : hW H o = dstIn H.hb o.dst := by unfold hW; rw [hop]
    have e2 : hR H o = dstIn H.hb o.dst := by unfold hR; rw [hop]
    rw [e]
    exact core_box ok r hl (fun hm => by rw [hh, e2, hm]; rfl) hd hpb hop hc
  | load T x =>
    have e : hW H o = (isHp H x && dstIn H.tr o.dst) := by unfold hW; rw [hop]
    have e2 : hR H o = isHp H x := by unfold hR; rw [hop]
    cases htr : dstIn H.tr o.dst with
    | true =>
      rw [e]
      exact core_load_tr ok r hl hd hpb hop htr (fun hm => by rw [hh, e2, hm]; rfl) (fun hm => by rw [hh, e2, hm]; rfl) hc
    | false =>
      refine hW0 (by rw [e, htr, Bool.and_false]) (core_load ok r hl ?_ hd hpb hop htr hc)
      rw [hh]
      cases hR H o with
      | true => exact .inl rfl
      | false => exact .inr rfl
  | store T x y =>
    have e : hW H o = isHp H x := by unfold hW; rw [hop]
    have e2 : hR H o = isHp H x := by unfold hR; rw [hop]
    rw [e]
    exact core_store ok r hl hop (fun hm => by rw [hh, e2, hm]; rfl) (fun hm => by rw [hh, e2, hm]; rfl) hc
  | fieldAddr T x f => exact hW0 (by unfold hW; rw [hop]) (core_fieldAddr ok r hl hd hpb hop (self_ok hself (.inl ⟨T, f, hop⟩)) hc)
  | nilCheck x => exact hW0 (by unfold hW; rw [hop]) (core_nilCheck r hl hd hpb hop (self_ok hself (.inr hop)) hc)
  | makeSlice T l c =>
    have e : hW H o = dstIn H.hb o.dst := by unfold hW; rw [hop]
    have e2 : hR H o = dstIn H.hb o.dst := by unfold hR; rw [hop]
    rw [e]
    exact core_makeSlice ok r hl (fun hm => by rw [hh, e2, hm]; rfl) hd hpb hop hc
  | indexAddr T x i =>
    cases x with
    | global g => exact hW0 (by unfold hW; rw [hop]) (core_indexGlob ok r hl hd hpb hop hc)
    | _ => exact hW0 (by unfold hW; rw [hop]) (core_indexAddr ok r hl hd hpb hop rfl hc)
  | index T x i => exact hW0 (by unfold hW; rw [hop]) (core_index ok r hl hd hpb hop hc)
  | extract x i => exact hW0 (by unfold hW; rw [hop]) (core_extract r hl hd hpb hop hc)
  | field T x f => exact hW0 (by unfold hW; rw [hop]) (core_field ok r hl hd hpb hop hc)
  | binOp op T x y T' => exact hW0 (by unfold hW; rw [hop]) (core_binOp ok r hl hd hpb hop hc)
  | unOp op T x => exact hW0 (by unfold hW; rw [hop]) (core_unOp r hl hd hpb hop hc)
  | convert src dst x => exact hW0 (by unfold hW; rw [hop]) (core_convert ok r hl hd hpb hop hc)
  | makeInterface T x => exact hW0 (by unfold hW; rw [hop]) (core_makeInterface ok r hl hd hpb hop hc)
  | makeFunc f first caps =>
    cases f with
    | func f => exact hW0 (by unfold hW; rw [hop]) (core_makeFunc r hl hd hpb hop hc)
    | _ => (unfold core at hc; rw [hop] at hc; cases hc)
  | slice T x lo hi mx =>
    cases mx with
    | none => exact hW0 (by unfold hW; rw [hop]) (core_slice ok r hl hd hpb hop hc)
    | some m => (unfold core at hc; rw [hop] at hc; cases hc)
  | build T parts => exact hW0 (by unfold hW; rw [hop]) (core_build ok r hl hd hpb hop hc)
  | buildSlice T len parts => exact hW0 (by unfold hW; rw [hop]) (core_buildSlice ok r hl hd hpb hop hc)
  | call c =>
    cases hcal : c.callee with
    | builtin b =>
      cases happ : isApp b && dstIn H.hb o.dst with
      | true =>
        have hb2 : b = .append := by cases b <;> simp [isApp] at happ <;> rfl
        subst hb2
        have hdi : dstIn H.hb o.dst = true := by simpa [isApp] using happ
        have e2 : hR H o = true := by unfold hR; rw [hop]; simp only [hcal]; rw [happ]; rfl
        have e : hW H o = true := by unfold hW; rw [hop]; simp only [hcal]; rw [happ]; rfl
        rw [e]
        exact core_appendH ok r hl hd hpb hop hcal hdi (by rw [hh, e2]; rfl) hc
      | false =>
      have hg := core_builtin ok r hl hd hpb hop hcal happ hc
      refine hW0 ?_ hg
      unfold hW
      rw [hop]
      simp only [hcal]
      rw [happ, Bool.or_false]
      cases b <;> try rfl
      exfalso
      unfold core at hc
      rw [hop] at hc
      simp only [hcal, isApp, Bool.false_and, cond_false] at hc
      unfold builtinK at hc
      split at hc <;> first
        | (rename_i h _ _; cases h; done)
        | skip
      · rw [Option.bind_eq_some_iff] at hc; obtain ⟨v, hv, hc⟩ := hc
        split at hc <;> cases hc
      · cases hc
    | value f =>
      have e2 : hR H o = true := by unfold hR; rw [hop]; simp only [hcal]
      have e : hW H o = !dstIn H.pure o.dst := by unfold hW; rw [hop]; simp only [hcal]
      obtain ⟨k1, k2⟩ := core_call hs r hl hd hpb hop hcal (by rw [hh, e2]; rfl) hc
      rw [e]
      cases hp : dstIn H.pure o.dst with
      | true => rw [k2 hp] at k1; exact k1
      | false => exact k1
    | invoke x n => (unfold core at hc; rw [hop] at hc; simp only [hcal] at hc; cases hc)
  | panic x =>
    unfold core at hc
    rw [hop] at hc
    simp only at hc
    rw [Option.bind_eq_some_iff] at hc; obtain ⟨v, hv, hc⟩ := hc
    split at hc <;> cases hc
  | _ => (unfold core at hc; rw [hop] at hc; cases hc)


theorem condC {α : Type} {b : Bool} {x y z : α} (h : (bif b then x else y) = z) : (b = true ∧ x = z) ∨ (b = false ∧ y = z) := by cases b with | true => exact .inl ⟨rfl, h⟩ | false => exact .inr ⟨rfl, h⟩
def panicky (o : Oper) : Bool := match o.op with | .call _ | .panic _ => true | _ => false

theorem core_kp {K : List (Nat × Slot) → Heap → Option ρ} {Kp Kp' : AV → Heap → Option ρ} (h : panicky o = false) : core E H call o look h0 K Kp = core E H call o look h0 K Kp' := by
  unfold panicky at h
  unfold core
  cases hop : o.op <;> rw [hop] at h
  case makeFunc f first caps => cases f <;> rfl
  case slice T x lo hi mx => cases mx <;> rfl
  all_goals first | rfl | cases h

theorem core_no_pan {p : AV × Heap} (h : panicky o = false) : core E H call o look h0 kD kpD ≠ some (.inr p) := by
  intro hc
  have e1 : core E H call o look h0 (fun _ _ => none) (fun _ _ => some ()) = some () := by rw [core_bind, hc]; rfl
  rw [core_kp h (Kp' := fun _ _ => none), core_bind, hc] at e1
  cases e1

theorem core_pan (hs : SoundC E.P call) (r : RepSt d G w st a.tmps) (hl : ∀ t, look t = st.s t ∨ look t = .dead) {p : AV}
    (hh : h0 = bif hR H o then st.h else []) (hc : core E H call o look h0 kD kpD = some (.inr (p, h'))) : Pans E.P d G w a o p h' ∧ hW H o = true := by
  cases hp : panicky o with
  | false => exact absurd hc (core_no_pan hp)
  | true =>
    unfold panicky at hp
    split at hp
    · rename_i c hop
      cases hcal : c.callee with
      | builtin b =>
        cases b with
        | panic =>
          have e2 : hR H o = true := by unfold hR; rw [hop]; simp only [hcal]; rfl
          exact ⟨core_panic_b r hl (by rw [hh, e2]; rfl) hop hcal rfl hc, by unfold hW; rw [hop]; simp only [hcal]; rfl⟩
        | _ =>
          exfalso
          unfold core at hc
          rw [hop] at hc
          simp only [hcal] at hc
          obtain ⟨_, hc⟩ | ⟨_, hc⟩ := condC hc
          · unfold appendH at hc
            split at hc
            · rw [Option.bind_eq_some_iff] at hc; obtain ⟨_, _, hc⟩ := hc
              obtain ⟨_, hc⟩ := condE hc
              rw [Option.bind_eq_some_iff] at hc; obtain ⟨_, _, hc⟩ := hc
              rw [Option.bind_eq_some_iff] at hc; obtain ⟨_, _, hc⟩ := hc
              split at hc
              · obtain ⟨_, hc⟩ := condE hc; cases hc
              · obtain ⟨_, hc⟩ := condE hc; cases hc
              · obtain ⟨_, hc⟩ := condE hc
                rw [Option.bind_eq_some_iff] at hc; obtain ⟨_, _, hc⟩ := hc
                obtain ⟨_, hc⟩ := condE hc; cases hc
              · cases hc
            · cases hc
          unfold builtinK at hc
          split at hc <;> first
            | (rename_i h _ _; cases h; done)
            | skip
          all_goals first
            | (cases hc; done)
            | (rw [Option.bind_eq_some_iff] at hc; obtain ⟨_, _, hc⟩ := hc
               rw [Option.bind_eq_some_iff] at hc; obtain ⟨_, _, hc⟩ := hc
               cases hc; done)
            | (rw [Option.bind_eq_some_iff] at hc; obtain ⟨_, _, hc⟩ := hc
               rw [Option.bind_eq_some_iff] at hc; obtain ⟨_, _, hc⟩ := hc
               rw [Option.bind_eq_some_iff] at hc; obtain ⟨_, _, hc⟩ := hc
               cases hc; done)
            | (rw [Option.bind_eq_some_iff] at hc; obtain ⟨_, _, hc⟩ := hc
               obtain ⟨_, hc⟩ := condE hc
               rw [Option.bind_eq_some_iff] at hc; obtain ⟨_, _, hc⟩ := hc
               rw [Option.bind_eq_some_iff] at hc; obtain ⟨_, _, hc⟩ := hc
               rw [Option.bind_eq_some_iff] at hc; obtain ⟨_, _, hc⟩ := hc
               split at hc
               · obtain ⟨_, hc⟩ := condE hc; cases hc
               · split at hc
                 · obtain ⟨_, hc⟩ := condE hc; cases hc
                 · cases hc
               · cases hc)
      | value f =>
        have e2 : hR H o = true := by unfold hR; rw [hop]; simp only [hcal]
        have e : hW H o = !dstIn H.pure o.dst := by unfold hW; rw [hop]; simp only [hcal]
        obtain ⟨k1, k2⟩ := core_call_pan hs r hl hop hcal (by rw [hh, e2]; rfl) hc
        exact ⟨k1, by rw [e, k2]; rfl⟩
      | invoke x n => (unfold core at hc; rw [hop] at hc; simp only [hcal] at hc; cases hc)
    · rename_i x hop
      have e2 : hR H o = true := by unfold hR; rw [hop]
      exact ⟨core_panic r hl (by rw [hh, e2]; rfl) hop hc, by unfold hW; rw [hop]⟩
    · cases hp

end
end Go.Sh

/- Regions in their own order. -/
namespace Go.Sh
open Go
set_option linter.unusedVariables false
set_option linter.unusedSimpArgs false

/-- All machines; a frame of a round, or none. -/
def FF (ro : Option Nat) : Fence := { Fence.wide with round := ro }

theorem calls_in (ro : Option Nat) {n : Nat} {P : Program} {f : FuncId} {args : Array Value} {w : World} {R : Ending → World → Prop} (h : Calls P f args w R) : CallsIn (FF ro) n P f args w R := by
  have := (callsIn_wide (n := n)).2 h
  cases ro with
  | none => exact this
  | some l => exact this

theorem rows_in (ro : Option Nat) {n : Nat} {P : Program} {row : String} {args : Array Value} {w : World} {R : Value → World → Prop} (h : Rows P row args w R) : RowsIn (FF ro) n P row args w R := by
  intro c cs _
  obtain ⟨v, w', r, s⟩ := h c cs
  refine ⟨v, w', r, ?_⟩
  cases ro with
  | none => exact stepsIn_wide.2 s
  | some l => exact (stepsIn_wide.2 s : StepsIn (Machine.fenced P Fence.wide) P _ _)

theorem wp_in (ro : Option Nat) {n : Nat} {P : Program} {o : Oper} {a : Act} {w : World} {K : Act → World → Prop} {Q : Exit → Act → World → Prop} (hnd : ∀ c, o.op ≠ .defer c) (h : o.wp P a w K Q) : o.wpIn (FF ro) n P a w K Q := by
  refine ⟨fun _ _ => trivial, ?_⟩
  rw [Oper.semAt_eq _ _ _ hnd]
  unfold Oper.wp at h
  generalize (execOp a.eval o).run P w = r at *
  cases r with
  | ok x w' =>
    cases x <;> simp only [Oper.upon] at h <;> first
      | exact h
      | exact h.elim
      | exact ⟨fun e => (by cases e), calls_in ro h⟩
      | exact ⟨fun e => (by cases e), rows_in ro h⟩
  | halt x w' => cases x <;> simp only [Oper.upon] at h <;> first | exact h | exact h.elim

theorem core_nd {ρ : Type} {E : Env} {H : FHint} {call : Nat → List AV → Heap → R} {o : Oper} {look : Nat → Slot} {h : Heap} {K : List (Nat × Slot) → Heap → Option ρ} {Kp : AV → Heap → Option ρ} {x : ρ} (hx : core E H call o look h K Kp = some x) : ∀ c, o.op ≠ .defer c := by
  intro c hc
  unfold core at hx
  rw [hc] at hx
  cases hx

theorem put_tmps (a : Act) (dst : Option Nat) (v : Value) : (a.put dst v).tmps = putT a.tmps dst v := by cases dst <;> rfl
theorem put_defers (a : Act) (dst : Option Nat) (v : Value) : (a.put dst v).defers = a.defers := by cases dst <;> rfl

theorem split_some {ρ : Type} {b : Bool} {us : List (Nat × Slot)} {K : List (Nat × Slot) → Option ρ} {res : ρ} (h : splitK b us K = some res) : K us = some res := by
  unfold splitK at h
  cases b with
  | false => exact h
  | true =>
    simp only [cond_true] at h
    split at h
    · rename_i t a
      rw [Option.bind_eq_some_iff] at h; obtain ⟨x, hx, h⟩ := h
      have e := boolOf_eq hx; subst e
      cases x <;> exact h
    · cases h

section
variable {ρ : Type} {E : Env} {H : FHint} {call : Nat → List AV → Heap → R} {d : Nat} {G : Gh} {w : World} {st : St} {a : Act} {o : Oper} {nt i nn : Nat} {ops : Array Oper} {ro : Option Nat}

theorem okUs_of {us : List (Nat × Slot)} {pb : Nat → Bool} (h : okUs H pb nt o us = true) : freeDst pb o.dst = true ∧ (∀ t, o.dst = some t → t < nt) ∧ selfOk o = true ∧ allIn (fpW H o) nt us = true := by
  unfold okUs at h
  simp only [Bool.and_eq_true] at h
  obtain ⟨⟨⟨⟨h1, h2⟩, h3⟩, h4⟩, _⟩ := h
  refine ⟨h1, fun t ht => ?_, h3, h4⟩
  rw [ht] at h2
  simpa [dstLt, Nat.blt_eq] using h2

theorem lookM_ok (H : FHint) (ops : Array Oper) (o : Oper) (st : St) (t : Nat) : lookM H ops o st t = st.s t ∨ lookM H ops o st t = .dead := by
  unfold lookM
  cases memN (fpR H ops o) t with
  | true => exact .inl rfl
  | false => exact .inr rfl

/-- What a step's shadow tells of the step. -/
def StepOk (d : Nat) (G : Gh) (w : World) (a : Act) (nt : Nat) (hw : Bool) (res : SR) (wpx : (Act → World → Prop) → (Exit → Act → World → Prop) → Prop) : Prop :=
  (∀ st', res = .inl st' → ∀ K Q, (∀ a' G' w', RepSt d G' w' st' a'.tmps → a'.tmps.size = nt → a'.defers = a.defers → Fr d G w G' w' → K a' w') → wpx K Q) ∧
  (∀ x h2, res = .inr (x, h2) → hw = true ∧ ∀ K Q, (∀ G' w' v, RepA G'.S w' G'.μ x v → RepHeap G' w' h2 → Within G' w' → Fr d G w G' w' → Q (.panic [{ v, recovered := false }]) a w') → wpx K Q)

theorem run_ok (ok : E.Ok) (hs : SoundC E.P call) (hnt : a.tmps.size = nt) (r : RepSt d G w st a.tmps) {res : SR} (h : runK E H nt call ops i o st (fun st => some (.inl st)) (fun a h => some (.inr (a, h))) = some res) :
    StepOk d G w a nt (hW H o) res (fun K Q => o.wp E.P a w K Q) := by
  unfold runK at h
  rw [core_bind, Option.bind_eq_some_iff] at h
  obtain ⟨c, hc, h⟩ := h
  cases c with
  | inl p =>
    obtain ⟨us, h'⟩ := p
    have h := split_some h
    unfold goK at h
    obtain ⟨hok, h⟩ := condE h
    have h := Option.some.inj h
    obtain ⟨k1, k2, k3, k4⟩ := okUs_of hok
    refine ⟨fun st' e K Q hK => ?_, fun x h2 e => by rw [e] at h; cases h⟩
    rw [e] at h
    have h := Sum.inl.inj h
    have := core_ok ok hs r (lookM_ok H ops o st) (fun t ht => by rw [hnt]; exact k2 t ht) k1 k3 rfl hc
    refine this K Q fun G' w' v hr hf => hK _ G' w' ?_ ?_ (put_defers _ _ _) hf
    · rw [put_tmps, ← h]; exact hr
    · rw [put_tmps, putT_size, hnt]
  | inr p =>
    obtain ⟨x, h'⟩ := p
    have h : some (Sum.inr (x, h')) = some res := h
    have h := Option.some.inj h
    obtain ⟨k1, k2⟩ := core_pan hs r (lookM_ok H ops o st) rfl hc
    refine ⟨fun st' e => (by rw [e] at h; cases h), fun y h2 e => ?_⟩
    rw [e] at h
    have h := Sum.inr.inj h; cases h
    exact ⟨k2, fun K Q hQ => k1 K Q hQ⟩

theorem skip_ok (hnt : a.tmps.size = nt) (r : RepSt d G w st a.tmps) {res : SR} (h : skipK H nt o st (fun st => some (Sum.inl st : SR)) = some res) :
    ∃ st', res = .inl st' ∧ RepSt d G w st' (a.put o.dst undef).tmps := by
  unfold skipK at h
  obtain ⟨hok, h⟩ := condE h
  have h := Option.some.inj h
  obtain ⟨k1, k2, k3, k4⟩ := okUs_of hok
  refine ⟨_, h.symm, ?_⟩
  rw [put_tmps]
  have hd : ∀ t, o.dst = some t → t < a.tmps.size := fun t ht => by rw [hnt]; exact k2 t ht
  have := r.next (Ext.refl _ _ _) o.dst undef hd k1 (dstUp o.dst .und) st.h (fun t ht => dstUp_keys ht) (fun t s hm => by
    obtain ⟨ht, rfl⟩ := dstUp_mem hm
    rw [ht]
    show (a.tmps.setIfInBounds t undef).getD t undef = undef
    rw [getD_put _ _ _ _ (hd t ht), if_pos rfl]) (fun u t off hm => by have := (dstUp_mem hm).2; cases this) (fun _ _ _ _ _ => ⟨rfl, rfl, rfl⟩) r.heap r.within
  have e : addPb st.pb (dstUp o.dst .und) = st.pb := by cases o.dst <;> rfl
  rw [e] at this
  exact this

theorem undef_nb (b : Bool) : undef ≠ .bool b := by intro h; cases h

theorem yielded_und (r : RepSt d G w st a.tmps) {j g : Nat} (hj : ((ops[j]?).bind (·.dst)) = some g) (hg : st.s g = .und) : yielded ops a.tmps j = none := by
  have hr := r.slot g
  rw [hg] at hr
  unfold yielded
  rw [hj]
  simp only [Option.bind_some]
  have hr : a.tmps.getD g undef = undef := hr
  rw [Array.getD_eq_getD_getElem?] at hr
  cases e : a.tmps[g]? with
  | none => rfl
  | some v =>
    rw [e] at hr
    have hr : v = undef := hr
    subst hr; rfl

theorem yielded_bool (r : RepSt d G w st a.tmps) {j g : Nat} (hj : ((ops[j]?).bind (·.dst)) = some g) {x : AV} {b : Bool} (hg : st.s g = .c (.v x)) (hb : boolOf x = some b) : yielded ops a.tmps j = some b := by
  have e := boolOf_eq hb; subst e
  have hr := r.slot g
  rw [hg] at hr
  have hr : RepA G.S w G.μ (.lit (.bool b)) (a.tmps.getD g undef) := hr
  have hr := hr.litE
  unfold yielded
  rw [hj]
  simp only [Option.bind_some]
  rw [Array.getD_eq_getD_getElem?] at hr
  cases e : a.tmps[g]? with
  | none => rw [e] at hr; exact absurd hr (undef_nb b)
  | some v =>
    rw [e] at hr
    have hr : v = .bool b := hr
    subst hr; rfl

theorem guardSlot_one {g j : Nat} {want : Bool} (hg : o.guard = some (j, want)) (h : guardSlot ops o = [g]) : ((ops[j]?).bind (·.dst)) = some g := by
  unfold guardSlot at h
  rw [hg] at h
  simp only at h
  cases e : ops[j]? with
  | none => rw [e] at h; cases h
  | some p =>
    rw [e] at h
    simp only at h
    cases e2 : p.dst with
    | none => rw [e2] at h; cases h
    | some t => rw [e2] at h; simp at h; simp [e2, h]

/-- ONE STEP. -/
theorem step_ok (ok : E.Ok) (hs : SoundC E.P call) (hi : ops[i]? = some o) (hnt : a.tmps.size = nt) (r : RepSt d G w st a.tmps) {res : SR} (h : stepD E H nt call ops i o st = some res) :
    StepOk d G w a nt (hW H o) res (fun K Q => wpOpIn (FF ro) nn E.P ops Q i K a w) := by
  have want : Region.wanted o (yielded ops a.tmps) = true → runK E H nt call ops i o st (fun st => some (.inl st)) (fun a h => some (.inr (a, h))) = some res → StepOk d G w a nt (hW H o) res (fun K Q => wpOpIn (FF ro) nn E.P ops Q i K a w) := fun hw hr => by
    have := run_ok ok hs hnt r hr
    have hwp : ∀ K Q, o.wp E.P a w K Q → wpOpIn (FF ro) nn E.P ops Q i K a w := fun K Q h => by
      unfold wpOpIn
      rw [hi]
      simp only [hw, if_true]
      exact wp_in ro (core_nd hr) h
    exact ⟨fun st' e K Q hK => hwp K Q (this.1 st' e K Q hK), fun x h2 e => ⟨(this.2 x h2 e).1, fun K Q hQ => hwp K Q ((this.2 x h2 e).2 K Q hQ)⟩⟩
  have skip : Region.wanted o (yielded ops a.tmps) = false → skipK H nt o st (fun st => some (.inl st)) = some res → StepOk d G w a nt (hW H o) res (fun K Q => wpOpIn (FF ro) nn E.P ops Q i K a w) := fun hw hr => by
    obtain ⟨st', e, hr'⟩ := skip_ok hnt r hr
    refine ⟨fun st'' e' K Q hK => ?_, fun x h2 e' => by rw [e] at e'; cases e'⟩
    rw [e] at e'; cases e'
    unfold wpOpIn
    rw [hi]
    simp only [hw, Bool.false_eq_true, if_false]
    exact ⟨fun _ _ => trivial, hK _ G w hr' (by rw [put_tmps, putT_size, hnt]) (put_defers _ _ _) (Fr.refl _ _ _)⟩
  unfold stepD stepK at h
  split at h
  · rename_i hg
    exact want (by unfold Region.wanted; rw [hg]) h
  · rename_i j wnt hg
    split at h
    · rename_i g hgs
      have hj := guardSlot_one hg hgs
      split at h
      · rename_i hu
        have hsu := look_eq (lookM_ok H ops o st) hu (by simp)
        exact skip (by unfold Region.wanted; rw [hg]; simp only; rw [yielded_und r hj hsu]; rfl) h
      · rename_i x hx
        have hsx := look_eq (lookM_ok H ops o st) hx (by simp)
        rw [Option.bind_eq_some_iff] at h; obtain ⟨b, hb, h⟩ := h
        have hy := yielded_bool r hj hsx hb
        cases e : b == wnt with
        | true =>
          rw [e] at h
          exact want (by unfold Region.wanted; rw [hg]; simp only; rw [hy]; simpa using e) h
        | false =>
          rw [e] at h
          exact skip (by unfold Region.wanted; rw [hg]; simp only; rw [hy]; simpa using e) h
      · cases h
    · cases h

/-- What stands behind code: as its shadow says. 'G0', 'w0': where the function began. -/
def QK {ρ : Type} (D : List Deferred) (d : Nat) (G0 : Gh) (w0 : World) (nt : Nat) (K : Ex → St → Option ρ) (Kp : AV → Heap → Option ρ) (res : ρ) (e : Exit) (a : Act) (w : World) : Prop :=
  a.defers = D ∧ match e with
    | .normal => ∃ st G, K .normal st = some res ∧ RepSt d G w st a.tmps ∧ a.tmps.size = nt ∧ Fr d G0 w0 G w
    | .exit i => ∃ st G, K (.exit i) st = some res ∧ RepSt d G w st a.tmps ∧ a.tmps.size = nt ∧ Fr d G0 w0 G w
    | .ret => ∃ st G, K .ret st = some res ∧ RepSt d G w st a.tmps ∧ a.tmps.size = nt ∧ Fr d G0 w0 G w
    | .panic chain => ∃ x v G h', chain = [{ v, recovered := false }] ∧ Kp x h' = some res ∧ RepA G.S w G.μ x v ∧ RepHeap G w h' ∧ Within G w ∧ Fr d G0 w0 G w
    | _ => False

end
end Go.Sh

/- Regions of open order. -/
namespace Go.Sh
open Go
set_option linter.unusedVariables false
set_option linter.unusedSimpArgs false

section
variable {E : Env} {H : FHint} {call : Nat → List AV → Heap → R} {d : Nat} {G : Gh} {w : World} {st : St} {a : Act} {nt nn : Nat} {ops : Array Oper} {ro : Option Nat} {D : List Deferred}

/-- What is asked of the condition behind a region. -/
structure RegQ {ρ : Type} (D : List Deferred) (d : Nat) (nt : Nat) (G0 : Gh) (w0 : World) (K : St → Option ρ) (Kp : AV → Heap → Option ρ) (res : ρ) (Q : Exit → Act → World → Prop) : Prop where
  norm : ∀ st a G w, K st = some res → RepSt d G w st a.tmps → a.tmps.size = nt → a.defers = D → Fr d G0 w0 G w → Q .normal a w
  pan : ∀ x h a G w v, Kp x h = some res → RepA G.S w G.μ x v → RepHeap G w h → Within G w → a.defers = D → Fr d G0 w0 G w → Q (.panic [{ v, recovered := false }]) a w

theorem indexed_spec (ops : Array Oper) : (indexed ops).map Prod.fst = List.range ops.size ∧ ∀ p ∈ indexed ops, ops[p.1]? = some p.2 := by
  unfold indexed
  refine ⟨?_, fun p hp => ?_⟩
  · rw [List.map_map]
    refine List.ext_getElem? fun i => ?_
    rw [List.getElem?_map, List.getElem?_zipIdx]
    by_cases h : i < ops.size
    · rw [List.getElem?_range h]
      simp [h]
    · rw [List.getElem?_eq_none (l := List.range ops.size) (by simpa using h)]
      simp [Nat.not_lt.1 h]
  · obtain ⟨q, hq, rfl⟩ := List.mem_map.1 hp
    obtain ⟨i, hi⟩ := List.mem_iff_getElem?.1 hq
    rw [List.getElem?_zipIdx] at hi
    obtain ⟨o, ho, rfl⟩ := Option.map_eq_some_iff.1 hi
    simpa using ho

theorem ops_ok {ρ : Type} (ok : E.Ok) (hs : SoundC E.P call) {G0 : Gh} {w0 : World} {K : St → Option ρ} {Kp : AV → Heap → Option ρ} {res : ρ} {Q : Exit → Act → World → Prop} (hq : RegQ D d nt G0 w0 K Kp res Q) :
    ∀ (l : List (Nat × Oper)) (st : St) (a : Act) (G : Gh) (w : World), (∀ p ∈ l, ops[p.1]? = some p.2) → opsK E H nt call ops l st K Kp = some res → RepSt d G w st a.tmps → a.tmps.size = nt → a.defers = D → Fr d G0 w0 G w →
      wpOpsIn (FF ro) nn E.P ops Q (l.map Prod.fst) a w
  | [], st, a, G, w, _, h, r, hnt, hd, hf => hq.norm st a G w h r hnt hd hf
  | (i, o) :: l, st, a, G, w, hl, h, r, hnt, hd, hf => by
    rw [List.map_cons, wpOpsIn_cons]
    unfold opsK at h
    rw [step_bind, Option.bind_eq_some_iff] at h
    obtain ⟨sr, hsr, h⟩ := h
    have hstep := step_ok (ro := ro) (nn := nn) ok hs (hl _ List.mem_cons_self) hnt r hsr
    cases sr with
    | inl st' =>
      refine hstep.1 st' rfl _ _ fun a' G' w' r' hnt' hd' hf' => ?_
      exact ops_ok ok hs hq l st' a' G' w' (fun p hp => hl p (List.mem_cons_of_mem _ hp)) h r' hnt' (hd'.trans hd) (hf.trans hf')
    | inr p =>
      refine (hstep.2 p.1 p.2 rfl).2 _ _ fun G' w' v h1 h2 h3 h4 => ?_
      exact hq.pan _ _ a G' w' v h h1 h2 h3 hd (hf.trans h4)

/-- IN THE END. -/
theorem region_ok {ρ : Type} (ok : E.Ok) (hs : SoundC E.P call) {G0 : Gh} {w0 : World} {K : St → Option ρ} {Kp : AV → Heap → Option ρ} {res : ρ} {Q : Exit → Act → World → Prop} (hq : RegQ D d nt G0 w0 K Kp res Q) {id : Nat}
    (h : opsK E H nt call ops (indexed ops) st K Kp = some res) (r : RepSt d G w st a.tmps) (hnt : a.tmps.size = nt) (hd : a.defers = D) (hf : Fr d G0 w0 G w) : (Code.region id ops false).wpIn (FF ro) nn E.P Q a w := by
  refine wpIn_region ?_
  obtain ⟨h1, h2⟩ := indexed_spec ops
  rw [← h1]
  exact ops_ok ok hs hq (indexed ops) st a G w h2 h r hnt hd hf


/- A step's core: what it looks at, what it turns. -/
abbrev SC := (List (Nat × Slot) × Option Heap) ⊕ (AV × Heap)

noncomputable def runC (E : Env) (H : FHint) (call : Nat → List AV → Heap → R) (ops : Array Oper) (i : Nat) (o : Oper) (look : Nat → Slot) (h0 : Heap) : Option SC :=
  (core E H call o look h0 kD kpD).bind fun c => match c with
    | .inl p => (splitK (isGuard ops i) p.1 some).bind fun us => some (.inl (us, bif hW H o then some p.2 else none))
    | .inr p => some (.inr p)

noncomputable def stepC (E : Env) (H : FHint) (call : Nat → List AV → Heap → R) (ops : Array Oper) (i : Nat) (o : Oper) (look : Nat → Slot) (h0 : Heap) : Option SC :=
  match o.guard with
  | none => runC E H call ops i o look h0
  | some (_, want) => match guardSlot ops o with
    | [g] => (match look g with
      | .und => some (.inl (dstUp o.dst .und, none))
      | .c (.v a) => (boolOf a).bind fun b => bif b == want then runC E H call ops i o look h0 else some (.inl (dstUp o.dst .und, none))
      | _ => none)
    | _ => none

def app (st : St) (us : List (Nat × Slot)) (oh : Option Heap) : St := { s := ups st.s us, h := oh.getD st.h, pb := addPb st.pb us }

def fin (H : FHint) (nt : Nat) (o : Oper) (st : St) : SC → Option SR
  | .inl p => bif okUs H st.pb nt o p.1 then some (.inl (app st p.1 p.2)) else none
  | .inr p => some (.inr p)

theorem run_C (i : Nat) (o : Oper) (st : St) : runK E H nt call ops i o st (fun st => some (.inl st : SR)) (fun a h => some (.inr (a, h))) =
    (runC E H call ops i o (lookM H ops o st) (bif hR H o then st.h else [])).bind (fin H nt o st) := by
  unfold runK runC
  rw [core_bind]
  cases core E H call o (lookM H ops o st) (bif hR H o then st.h else []) kD kpD with
  | none => rfl
  | some c =>
    cases c with
    | inr p => rfl
    | inl p =>
      simp only [Option.bind_some, elimC]
      have e := split_bind (K1 := goK H nt o st (fun st => some (.inl st : SR)) p.2) (K2 := some) (k := goK H nt o st (fun st => some (.inl st : SR)) p.2) (isGuard ops i) p.1 (fun _ => rfl)
      rw [e]
      cases splitK (isGuard ops i) p.1 some with
      | none => rfl
      | some us =>
        simp only [Option.bind_some, goK, fin]
        cases okUs H st.pb nt o us with
        | false => rfl
        | true =>
          simp only [cond_true, app]
          cases hW H o <;> rfl

theorem skip_C (o : Oper) (st : St) : skipK H nt o st (fun st => some (.inl st : SR)) = fin H nt o st (.inl (dstUp o.dst .und, none)) := by
  unfold skipK fin app
  have e : addPb st.pb (dstUp o.dst .und) = st.pb := by cases o.dst <;> rfl
  simp only [e, Option.getD_none]

theorem step_C (i : Nat) (o : Oper) (st : St) : stepD E H nt call ops i o st = (stepC E H call ops i o (lookM H ops o st) (bif hR H o then st.h else [])).bind (fin H nt o st) := by
  unfold stepD stepK stepC
  cases hg : o.guard with
  | none => exact run_C i o st
  | some q =>
    obtain ⟨j, want⟩ := q
    simp only
    cases hgs : guardSlot ops o with
    | nil => rfl
    | cons g gr =>
      cases gr with
      | cons g' gr => rfl
      | nil =>
        simp only
        cases hl : lookM H ops o st g with
        | und => simp only; rw [skip_C]; rfl
        | c x =>
          cases x with
          | v a =>
            simp only
            cases boolOf a with
            | none => rfl
            | some b =>
              simp only [Option.bind_some]
              cases b == want with
              | true => exact run_C i o st
              | false => simp only [cond_false]; rw [skip_C]; rfl
          | _ => rfl
        | _ => rfl

theorem stepC_heap {i : Nat} {o : Oper} {look : Nat → Slot} {h0 h1 : Heap} {us : List (Nat × Slot)} (h : stepC E H call ops i o look h0 = some (.inl (us, some h1))) : hW H o = true := by
  have run : runC E H call ops i o look h0 = some (.inl (us, some h1)) → hW H o = true := fun h => by
    unfold runC at h
    rw [Option.bind_eq_some_iff] at h; obtain ⟨c, hc, h⟩ := h
    cases c with
    | inr p => cases h
    | inl p =>
      rw [Option.bind_eq_some_iff] at h; obtain ⟨us', hus, h⟩ := h
      cases e : hW H o with
      | true => rfl
      | false => rw [e] at h; cases h
  unfold stepC at h
  split at h
  · exact run h
  · split at h
    · split at h
      · cases h
      · rw [Option.bind_eq_some_iff] at h; obtain ⟨b, hb, h⟩ := h
        cases e : b == _ with
        | true => rw [e] at h; exact run h
        | false => rw [e] at h; cases h
      · cases h
    · cases h

/- footprints -/
theorem memN_iff {l : List Nat} {n : Nat} : memN l n = true ↔ n ∈ l := by
  induction l with
  | nil => simp [memN]
  | cons x r ih =>
    unfold memN
    cases e : Nat.beq x n with
    | true => have := beqE e; subst this; simp
    | false =>
      simp only [cond_false, ih, List.mem_cons]
      have : n ≠ x := fun h => by subst h; simp at e
      simp [this]

theorem disj_iff {l m : List Nat} : disj l m = true ↔ ∀ n ∈ l, n ∉ m := by
  induction l with
  | nil => simp [disj]
  | cons x r ih =>
    unfold disj
    simp only [Bool.and_eq_true, ih, List.mem_cons, forall_eq_or_imp]
    rw [show (!memN m x) = true ↔ x ∉ m from by rw [Bool.not_eq_true', ← Bool.not_eq_true, memN_iff]]

theorem allIn_mem {W : List Nat} {nt : Nat} : ∀ {us : List (Nat × Slot)}, allIn W nt us = true → ∀ t ∈ us.map Prod.fst, t ∈ W
  | [], _, t, ht => by cases ht
  | (u, s) :: r, h, t, ht => by
    unfold allIn at h
    simp only [Bool.and_eq_true] at h
    rcases List.mem_cons.1 ht with e | e
    · rw [e]; exact memN_iff.1 h.1.1
    · exact allIn_mem h.2 t e

def hasB : List (Nat × Slot) → Nat → Bool
  | [], _ => false
  | (_, .path t _) :: r, m => Nat.beq t m || hasB r m
  | _ :: r, m => hasB r m

theorem addPb_or : ∀ (us : List (Nat × Slot)) (pb : Nat → Bool) (t : Nat), addPb pb us t = (pb t || hasB us t)
  | [], pb, t => by simp [addPb, hasB]
  | (u, s) :: r, pb, t => by
    cases s <;> try exact addPb_or r pb t
    rename_i b o
    show addPb (fun m => bif Nat.beq b m then true else pb m) r t = (pb t || (Nat.beq b t || hasB r t))
    rw [addPb_or r]
    cases Nat.beq b t <;> simp

theorem pathsIn_hasB {l : List Nat} : ∀ {us : List (Nat × Slot)}, pathsIn l us = true → ∀ t, hasB us t = true → t ∈ l
  | [], _, t, h => by cases h
  | (u, s) :: r, h, t, ht => by
    cases s <;> try exact pathsIn_hasB (us := r) h t ht
    rename_i b o
    have h : (memN l b && pathsIn l r) = true := h
    simp only [Bool.and_eq_true] at h
    have ht : (Nat.beq b t || hasB r t) = true := ht
    simp only [Bool.or_eq_true] at ht
    rcases ht with e | e
    · have := beqE e; subst this; exact memN_iff.1 h.1
    · exact pathsIn_hasB h.2 t e

theorem ups_comm {us vs : List (Nat × Slot)} (h : ∀ t ∈ us.map Prod.fst, t ∉ vs.map Prod.fst) (s : Nat → Slot) : ups (ups s us) vs = ups (ups s vs) us := by
  have gen : ∀ (l : List (Nat × Slot)) (f g : Nat → Slot) (t : Nat), t ∈ l.map Prod.fst → ups f l t = ups g l t := by
    intro l
    induction l with
    | nil => intro f g t ht; cases ht
    | cons p r ih =>
      intro f g t ht
      obtain ⟨u, x⟩ := p
      by_cases hr : t ∈ r.map Prod.fst
      · exact ih _ _ t hr
      · rcases List.mem_cons.1 ht with e | e
        · simp only at e
          unfold ups
          rw [ups_not_mem hr, ups_not_mem hr, upd, upd, e, show Nat.beq u u = true from by simp]; rfl
        · exact absurd e hr
  funext t
  by_cases h1 : t ∈ us.map Prod.fst
  · have h2 := h t h1
    rw [ups_not_mem h2]
    exact gen us _ _ t h1
  · rw [ups_not_mem (s := ups s vs) h1]
    by_cases h2 : t ∈ vs.map Prod.fst
    · exact gen vs _ _ t h2
    · rw [ups_not_mem h2, ups_not_mem h2, ups_not_mem h1]

structure Past (H : FHint) (ops : Array Oper) (x y : Oper) : Prop where
  wr : ∀ t ∈ fpW H x, t ∉ fpR H ops y
  ww : ∀ t ∈ fpW H x, t ∉ fpW H y
  rw : ∀ t ∈ fpW H y, t ∉ fpR H ops x
  h1 : hW H x = true → (hR H y = false ∧ hW H y = false) ∨ (takeLd H x = true ∧ plainLd H y = true)
  h2 : hW H y = true → hR H x = false ∨ (takeLd H y = true ∧ plainLd H x = true)

theorem past_ok {x y : Oper} (h : past H ops x y = true) : Past H ops x y := by
  unfold past at h
  simp only [Bool.and_eq_true] at h
  obtain ⟨⟨⟨⟨a1, a2⟩, a3⟩, a4⟩, a5⟩ := h
  refine ⟨disj_iff.1 a1, disj_iff.1 a2, disj_iff.1 a3, fun e => ?_, fun e => ?_⟩
  · rw [e] at a4; simpa using a4
  · rw [e] at a5; simpa using a5

theorem plainLd_hW {o : Oper} (h : plainLd H o = true) : hW H o = false := by
  unfold plainLd at h
  unfold hW
  split at h
  · rename_i ho
    rw [ho]
    simp only [Bool.not_eq_true'] at h
    simp [h]
  · cases h

/-- What reads as the same, is loaded as the same. -/
theorem load_view {y : Oper} (hp : plainLd H y = true) {h1 h2 : Heap} (hh : ∀ i : Nat, (h1[i]?).map (fun cs : List Cell => cs.map Cell.get) = (h2[i]?).map fun cs : List Cell => cs.map Cell.get) {j : Nat} {look : Nat → Slot} :
    stepC E H call ops j y look h1 = stepC E H call ops j y look h2 := by
  have hw := plainLd_hW hp
  have run : runC E H call ops j y look h1 = runC E H call ops j y look h2 := by
    unfold plainLd at hp
    split at hp
    · rename_i T x ho
      have htr : dstIn H.tr y.dst = false := by simpa using hp
      unfold runC
      rw [hw]
      unfold core
      rw [ho]
      simp only [htr, cond_false]
      cases E.ty T with
      | none => rfl
      | some i =>
        simp only [Option.bind_some]
        cases placeOf look x with
        | none => rfl
        | some p =>
          simp only [Option.bind_some]
          cases p with
          | loc t off =>
            simp only
            cases look t with
            | loc cs =>
              simp only
              cases partA i.agg i.size off (cs.map Cell.get) <;> rfl
            | _ => rfl
          | ro cs =>
            simp only
            cases partA i.agg i.size 0 cs <;> rfl
          | heap k off =>
            have e : ∀ h : Heap, hpart i.agg i.size off k h = ((h[k]?).map fun cs : List Cell => cs.map Cell.get).bind (partG i.agg i.size off) := by
              intro h
              unfold hpart
              cases h[k]? <;> rfl
            simp only [e, hh k]
            cases ((h2[k]?).map fun cs : List Cell => cs.map Cell.get).bind (partG i.agg i.size off) with
            | none => cases dstIn H.lp y.dst <;> rfl
            | some v =>
              cases dstIn H.lp y.dst with
              | false => rfl
              | true =>
                simp only [cond_true, Option.bind_some]
                cases hpOfA v <;> rfl
    · cases hp
  unfold stepC
  split
  · exact run
  · rw [run]

/-- A taking leaves what the heap reads as. -/
theorem take_view {x : Oper} (hp : takeLd H x = true) {look : Nat → Slot} {h0 h1 : Heap} {i : Nat} {us : List (Nat × Slot)} (hs : stepC E H call ops i x look h0 = some (.inl (us, some h1))) :
    ∀ k : Nat, (h1[k]?).map (fun cs : List Cell => cs.map Cell.get) = (h0[k]?).map fun cs : List Cell => cs.map Cell.get := by
  have tk : ∀ {j off : Nat} {q : (Nat × List (List AV)) × Heap}, htake h0 j off = some q → ∀ k : Nat, (q.2[k]?).map (fun cs : List Cell => cs.map Cell.get) = (h0[k]?).map fun cs : List Cell => cs.map Cell.get := by
    intro j off q hq k
    unfold htake at hq
    rw [Option.bind_eq_some_iff] at hq; obtain ⟨cs, hcs, hq⟩ := hq
    split at hq
    · rename_i n es hce
      have hq := Option.some.inj hq; subst hq
      simp only
      by_cases e : j = k
      · subst e
        have hl : j < h0.length := (List.getElem?_eq_some_iff.1 hcs).1
        rw [List.getElem?_set_self hl, hcs]
        simp only [Option.map_some, Option.some.injEq]
        rw [List.map_set]
        refine List.ext_getElem? fun m => ?_
        by_cases e2 : off = m
        · subst e2
          have hl2 : off < cs.length := (List.getElem?_eq_some_iff.1 hce).1
          rw [List.getElem?_set_self (by simpa using hl2), List.getElem?_map, hce]; rfl
        · rw [List.getElem?_set_ne e2]
      · rw [List.getElem?_set_ne e]
    · cases hq
  have run : runC E H call ops i x look h0 = some (.inl (us, some h1)) → ∀ k : Nat, (h1[k]?).map (fun cs : List Cell => cs.map Cell.get) = (h0[k]?).map fun cs : List Cell => cs.map Cell.get := by
    intro h
    unfold runC at h
    rw [Option.bind_eq_some_iff] at h; obtain ⟨c, hc, h⟩ := h
    cases c with
    | inr p => cases h
    | inl p =>
      rw [Option.bind_eq_some_iff] at h; obtain ⟨us', hus, h⟩ := h
      have hh : p.2 = h1 := by
        cases e : hW H x with
        | false => rw [e] at h; cases h
        | true => rw [e] at h; exact Option.some.inj (Prod.mk.inj (Sum.inl.inj (Option.some.inj h))).2
      subst hh
      unfold takeLd at hp
      split at hp
      · rename_i T a ho
        unfold core at hc
        rw [ho] at hc
        simp only [hp, cond_true] at hc
        rw [Option.bind_eq_some_iff] at hc; obtain ⟨ti, _, hc⟩ := hc
        rw [Option.bind_eq_some_iff] at hc; obtain ⟨pl, _, hc⟩ := hc
        split at hc
        · split at hc
          · split at hc
            · cases e : ti.agg || !Nat.beq ti.size 1 with
              | true => rw [e] at hc; cases hc
              | false =>
                rw [e] at hc
                have := (Sum.inl.inj (Option.some.inj hc)); subst this
                exact fun _ => rfl
            · cases hc
          · cases hc
        · rw [Option.bind_eq_some_iff] at hc; obtain ⟨q, hq, hc⟩ := hc
          cases e : ti.agg || !Nat.beq ti.size 1 with
          | true => rw [e] at hc; cases hc
          | false =>
            rw [e] at hc
            have := (Sum.inl.inj (Option.some.inj hc)); subst this
            exact tk hq
        · cases hc
      · cases hp
  unfold stepC at hs
  split at hs
  · exact run hs
  · split at hs
    · split at hs
      · cases hs
      · rw [Option.bind_eq_some_iff] at hs; obtain ⟨b, hb, hs⟩ := hs
        cases e : b == _ with
        | true => rw [e] at hs; exact run hs
        | false => rw [e] at hs; cases hs
      · cases hs
    · cases hs

theorem okUs_parts {pb : Nat → Bool} {o : Oper} {us : List (Nat × Slot)} (h : okUs H pb nt o us = true) : freeDst pb o.dst = true ∧ (∀ t ∈ us.map Prod.fst, t ∈ fpW H o) ∧ (∀ t, hasB us t = true → t ∈ fpT H o) ∧ (∀ pb', freeDst pb' o.dst = true → okUs H pb' nt o us = true) := by
  unfold okUs at h ⊢
  simp only [Bool.and_eq_true] at h
  obtain ⟨⟨⟨⟨h1, h2⟩, h3⟩, h4⟩, h5⟩ := h
  exact ⟨h1, allIn_mem h4, pathsIn_hasB h5, fun pb' h' => by simp only [h', h2, h3, h4, h5]; rfl⟩

/-- Past a step of the other's, the view is the same. -/
theorem view_same {o : Oper} {st : St} {us : List (Nat × Slot)} {oh : Option Heap} (h1 : ∀ t ∈ us.map Prod.fst, t ∉ fpR H ops o) (h2 : oh.isSome = true → hR H o = false) :
    lookM H ops o (app st us oh) = lookM H ops o st ∧ (bif hR H o then (app st us oh).h else []) = (bif hR H o then st.h else []) := by
  constructor
  · funext t
    unfold lookM
    cases e : memN (fpR H ops o) t with
    | false => rfl
    | true =>
      simp only [cond_true]
      exact ups_not_mem (fun h => h1 t h (memN_iff.1 e))
  · cases e : hR H o with
    | false => rfl
    | true =>
      cases oh with
      | none => rfl
      | some x => rw [h2 rfl] at e; cases e

/-- Past a step of the other's, the same comes out. -/
theorem view_step {x y : Oper} (hwr : ∀ t ∈ fpW H x, t ∉ fpR H ops y) (hh : hW H x = true → hR H y = false ∨ (takeLd H x = true ∧ plainLd H y = true)) {i j : Nat} {st : St} {us : List (Nat × Slot)} {oh : Option Heap}
    (c1 : stepC E H call ops i x (lookM H ops x st) (bif hR H x then st.h else []) = some (.inl (us, oh))) (p2 : ∀ t ∈ us.map Prod.fst, t ∈ fpW H x) (w1 : oh.isSome = true → hW H x = true) :
    stepC E H call ops j y (lookM H ops y (app st us oh)) (bif hR H y then (app st us oh).h else []) = stepC E H call ops j y (lookM H ops y st) (bif hR H y then st.h else []) := by
  cases oh with
  | none =>
    obtain ⟨v1, v2⟩ := view_same (H := H) (ops := ops) (o := y) (st := st) (us := us) (oh := none) (fun t ht => hwr t (p2 t ht)) (fun e => by cases e)
    rw [v1, v2]
  | some h1 =>
    rcases hh (w1 rfl) with h | ⟨ht, hpl⟩
    · obtain ⟨v1, v2⟩ := view_same (H := H) (ops := ops) (o := y) (st := st) (us := us) (oh := some h1) (fun t ht => hwr t (p2 t ht)) (fun _ => h)
      rw [v1, v2]
    · have v1 : lookM H ops y (app st us (some h1)) = lookM H ops y st := by
        funext t
        unfold lookM
        cases e : memN (fpR H ops y) t with
        | false => rfl
        | true =>
          simp only [cond_true]
          exact ups_not_mem (fun h => hwr t (p2 t h) (memN_iff.1 e))
      rw [v1]
      cases e : hR H y with
      | false => rfl
      | true =>
        simp only [cond_true]
        refine load_view hpl fun k => ?_
        have hx : hR H x = true := by
          have hw := w1 rfl
          unfold takeLd at ht
          split at ht
          · rename_i ho
            unfold hW at hw
            rw [ho] at hw
            unfold hR
            rw [ho]
            simp only [Bool.and_eq_true] at hw
            exact hw.1
          · cases ht
        have := take_view ht c1 k
        rw [hx] at this
        exact this

theorem app_comm {x y : Oper} (hp : Past H ops x y) {st : St} {us vs : List (Nat × Slot)} {oh oh' : Option Heap} (h1 : ∀ t ∈ us.map Prod.fst, t ∈ fpW H x) (h2 : ∀ t ∈ vs.map Prod.fst, t ∈ fpW H y) (h3 : oh.isSome = true → hW H x = true) (h4 : oh'.isSome = true → hW H y = true) :
    app (app st us oh) vs oh' = app (app st vs oh') us oh := by
  unfold app
  congr 1
  · exact ups_comm (fun t ht hv => hp.ww t (h1 t ht) (h2 t hv)) _
  · cases oh with
    | none => rfl
    | some a =>
      cases oh' with
      | none => rfl
      | some b =>
        have : hW H y = false := by
          rcases hp.h1 (h3 rfl) with h | h
          · exact h.2
          · exact plainLd_hW h.2
        rw [h4 rfl] at this; cases this
  · funext t
    simp only [addPb_or]
    cases st.pb t <;> cases hasB us t <;> cases hasB vs t <;> rfl

/-- A step that went well, told by its core. -/
theorem step_inl {i : Nat} {o : Oper} {st st' : St} (h : stepD E H nt call ops i o st = some (.inl st')) :
    ∃ us oh, stepC E H call ops i o (lookM H ops o st) (bif hR H o then st.h else []) = some (.inl (us, oh)) ∧ okUs H st.pb nt o us = true ∧ st' = app st us oh ∧ (oh.isSome = true → hW H o = true) := by
  rw [step_C, Option.bind_eq_some_iff] at h
  obtain ⟨c, hc, h⟩ := h
  cases c with
  | inr p => cases h
  | inl p =>
    obtain ⟨us, oh⟩ := p
    unfold fin at h
    obtain ⟨h1, h2⟩ := condE h
    refine ⟨us, oh, hc, h1, (Sum.inl.inj (Option.some.inj h2)).symm, fun e => ?_⟩
    cases oh with
    | none => cases e
    | some x => exact stepC_heap hc

theorem step_inr {i : Nat} {o : Oper} {st : St} {p : AV × Heap} (h : stepD E H nt call ops i o st = some (.inr p)) : stepC E H call ops i o (lookM H ops o st) (bif hR H o then st.h else []) = some (.inr p) := by
  rw [step_C, Option.bind_eq_some_iff] at h
  obtain ⟨c, hc, h⟩ := h
  cases c with
  | inr q => have e : q = p := Sum.inr.inj (Option.some.inj (show (some (Sum.inr q) : Option SR) = some (Sum.inr p) from h)); rw [← e]; exact hc
  | inl q =>
    obtain ⟨us, oh⟩ := q
    unfold fin at h
    obtain ⟨h1, h2⟩ := condE h
    cases h2

theorem swap_nn {i j : Nat} {x y : Oper} (hp : Past H ops x y) {st st1 st2 : St} (h1 : stepD E H nt call ops i x st = some (.inl st1)) (h2 : stepD E H nt call ops j y st1 = some (.inl st2)) :
    ∃ st1', stepD E H nt call ops j y st = some (.inl st1') ∧ stepD E H nt call ops i x st1' = some (.inl st2) := by
  obtain ⟨us, oh, c1, k1, e1, w1⟩ := step_inl h1
  obtain ⟨vs, oh', c2, k2, e2, w2⟩ := step_inl h2
  subst e1 e2
  obtain ⟨p1, p2, p3, p4⟩ := okUs_parts k1
  obtain ⟨q1, q2, q3, q4⟩ := okUs_parts k2
  rw [view_step hp.wr (fun e => (hp.h1 e).imp (fun h => h.1) id) c1 p2 w1] at c2
  refine ⟨app st vs oh', ?_, ?_⟩
  · rw [step_C, c2]
    have : okUs H st.pb nt y vs = true := q4 _ (by
      cases hd : y.dst with
      | none => rfl
      | some t =>
        rw [hd] at q1
        have q1 : (!(app st us oh).pb t) = true := q1
        show (!st.pb t) = true
        unfold app at q1
        simp only [addPb_or] at q1
        cases e : st.pb t with
        | false => rfl
        | true => rw [e] at q1; cases q1)
    simp only [Option.bind_some, fin, this, cond_true]
  · rw [step_C, view_step hp.rw hp.h2 c2 q2 w2, c1]
    have : okUs H (app st vs oh').pb nt x us = true := p4 _ (by
      cases hd : x.dst with
      | none => rfl
      | some t =>
        rw [hd] at p1
        have p1 : (!st.pb t) = true := p1
        show (!(app st vs oh').pb t) = true
        unfold app
        simp only [addPb_or]
        have hw : t ∈ fpW H x := by unfold fpW; rw [hd]; simp
        cases e : hasB vs t with
        | false => simpa using p1
        | true => exact absurd (List.mem_append_left _ (q3 t e)) (hp.wr t hw))
    simp only [Option.bind_some, fin, this, cond_true]
    rw [app_comm hp p2 q2 w1 w2]

theorem swap_np {i j : Nat} {x y : Oper} (hp : Past H ops x y) {st st1 : St} {p : AV × Heap} (h1 : stepD E H nt call ops i x st = some (.inl st1)) (h2 : stepD E H nt call ops j y st1 = some (.inr p)) :
    stepD E H nt call ops j y st = some (.inr p) := by
  obtain ⟨us, oh, c1, k1, e1, w1⟩ := step_inl h1
  have c2 := step_inr h2
  subst e1
  obtain ⟨p1, p2, p3, p4⟩ := okUs_parts k1
  rw [view_step hp.wr (fun e => (hp.h1 e).imp (fun h => h.1) id) c1 p2 w1] at c2
  rw [step_C, c2]; rfl

theorem swap_pn {i j : Nat} {x y : Oper} (hp : Past H ops x y) {st st1 : St} {p : AV × Heap} (h1 : stepD E H nt call ops i x st = some (.inr p)) (h2 : stepD E H nt call ops j y st = some (.inl st1)) :
    stepD E H nt call ops i x st1 = some (.inr p) := by
  have c1 := step_inr h1
  obtain ⟨vs, oh', c2, k2, e2, w2⟩ := step_inl h2
  subst e2
  obtain ⟨q1, q2, q3, q4⟩ := okUs_parts k2
  rw [step_C, view_step hp.rw hp.h2 c2 q2 w2, c1]; rfl

section
variable {ρ : Type} {anc : List Nat}

theorem restK_x {hangs : Nat → Bool} {x : Option ρ} {res : ρ} : ∀ {l : List (Nat × Oper)} {st : St}, restK E H nt call ops hangs l st x = some res → x = some res
  | [], st, h => h
  | (i, o) :: r, st, h => by
    unfold restK at h
    cases e : hangs i with
    | true => rw [e] at h; exact restK_x h
    | false =>
      rw [e] at h
      simp only [cond_false] at h
      rw [step_bind, Option.bind_eq_some_iff] at h
      obtain ⟨sr, hsr, h⟩ := h
      cases sr with
      | inl st' => exact restK_x (l := r) h
      | inr p => cases h

theorem restK_cons {hangs : Nat → Bool} {x : Option ρ} {res : ρ} {i : Nat} {o : Oper} {r : List (Nat × Oper)} {st : St} (he : hangs i = false) : restK E H nt call ops hangs ((i, o) :: r) st x = some res ↔ ∃ st', stepD E H nt call ops i o st = some (.inl st') ∧ restK E H nt call ops hangs r st' x = some res := by
  conv => lhs; unfold restK
  rw [he]
  simp only [cond_false]
  rw [step_bind, Option.bind_eq_some_iff]
  constructor
  · rintro ⟨sr, hsr, h⟩
    cases sr with
    | inl st' => exact ⟨st', hsr, h⟩
    | inr p => cases h
  · rintro ⟨st', hsr, h⟩
    exact ⟨_, hsr, h⟩

theorem opsD_cons {K : St → Option ρ} {Kp : AV → Heap → Option ρ} {res : ρ} {i : Nat} {o : Oper} {r : List (Nat × Oper)} {st : St} : opsD E H nt call ops anc ((i, o) :: r) st K Kp = some res ↔
    (∃ st', stepD E H nt call ops i o st = some (.inl st') ∧ opsD E H nt call ops anc r st' K Kp = some res) ∨
    (∃ p, stepD E H nt call ops i o st = some (.inr p) ∧ hW H o = true ∧ restK E H nt call ops (fun j => (anc.getD j 0).testBit i) r st (Kp p.1 p.2) = some res) := by
  conv => lhs; unfold opsD
  rw [step_bind, Option.bind_eq_some_iff]
  constructor
  · rintro ⟨sr, hsr, h⟩
    cases sr with
    | inl st' => exact .inl ⟨st', hsr, h⟩
    | inr p =>
      obtain ⟨h1, h2⟩ := condE h
      exact .inr ⟨p, hsr, h1, h2⟩
  · rintro (⟨st', hsr, h⟩ | ⟨p, hsr, h1, h2⟩)
    · exact ⟨_, hsr, h⟩
    · refine ⟨_, hsr, ?_⟩
      show (bif hW H o then _ else none) = _
      rw [h1]; exact h2

/-- Two that go past each other. -/
theorem opsD_swap {K : St → Option ρ} {Kp : AV → Heap → Option ρ} {res : ρ} {i j : Nat} {x y : Oper} {r : List (Nat × Oper)} {st : St} (hp : Past H ops x y) (hij : (anc.getD i 0).testBit j = false) (hji : (anc.getD j 0).testBit i = false)
    (h : opsD E H nt call ops anc ((i, x) :: (j, y) :: r) st K Kp = some res) : opsD E H nt call ops anc ((j, y) :: (i, x) :: r) st K Kp = some res := by
  rcases opsD_cons.1 h with ⟨st1, h1, h⟩ | ⟨p, h1, hw, h⟩
  · rcases opsD_cons.1 h with ⟨st2, h2, h⟩ | ⟨p, h2, hw, h⟩
    · obtain ⟨st1', k1, k2⟩ := swap_nn hp h1 h2
      exact opsD_cons.2 (.inl ⟨st1', k1, opsD_cons.2 (.inl ⟨st2, k2, h⟩)⟩)
    · exact opsD_cons.2 (.inr ⟨p, swap_np hp h1 h2, hw, (restK_cons (hangs := fun k => (anc.getD k 0).testBit j) hij).2 ⟨st1, h1, h⟩⟩)
  · obtain ⟨st1, h2, h⟩ := (restK_cons (hangs := fun k => (anc.getD k 0).testBit i) hji).1 h
    exact opsD_cons.2 (.inl ⟨st1, h2, opsD_cons.2 (.inr ⟨p, swap_pn hp h1 h2, hw, h⟩)⟩)

/-- One congruence: what stands before stays. -/
theorem opsD_front {K : St → Option ρ} {Kp : AV → Heap → Option ρ} {res : ρ} {j : Nat} {y : Oper} {r : List (Nat × Oper)} : ∀ (l : List (Nat × Oper)) (st : St), (∀ p ∈ l, Past H ops p.2 y ∧ (anc.getD p.1 0).testBit j = false ∧ (anc.getD j 0).testBit p.1 = false) →
    opsD E H nt call ops anc (l ++ (j, y) :: r) st K Kp = some res → opsD E H nt call ops anc ((j, y) :: l ++ r) st K Kp = some res
  | [], st, _, h => h
  | (i, x) :: l, st, hl, h => by
    obtain ⟨hp, hij, hji⟩ := hl _ List.mem_cons_self
    have key : opsD E H nt call ops anc ((i, x) :: (j, y) :: (l ++ r)) st K Kp = some res := by
      rcases opsD_cons.1 h with ⟨st1, h1, h⟩ | ⟨p, h1, hw, h⟩
      · exact opsD_cons.2 (.inl ⟨st1, h1, opsD_front l st1 (fun p hp => hl p (List.mem_cons_of_mem _ hp)) h⟩)
      · refine opsD_cons.2 (.inr ⟨p, h1, hw, ?_⟩)
        refine restK_front l st (fun q hq => ?_) hji h
        exact (hl q (List.mem_cons_of_mem _ hq)).1
    exact opsD_swap hp hij hji key
where
  restK_front {x : Option ρ} {hangs : Nat → Bool} : ∀ (l : List (Nat × Oper)) (st : St), (∀ p ∈ l, Past H ops p.2 y) → hangs j = false →
      restK E H nt call ops hangs (l ++ (j, y) :: r) st x = some res → restK E H nt call ops hangs ((j, y) :: l ++ r) st x = some res
  | [], st, _, _, h => h
  | (i, z) :: l, st, hl, hj, h => by
    cases e : hangs i with
    | true =>
      have h' : restK E H nt call ops hangs (l ++ (j, y) :: r) st x = some res := by
        have h := h
        rw [List.cons_append] at h
        unfold restK at h
        rw [e] at h; exact h
      have := restK_front l st (fun p hp => hl p (List.mem_cons_of_mem _ hp)) hj h'
      obtain ⟨st1, k1, k2⟩ := (restK_cons hj).1 this
      refine (restK_cons hj).2 ⟨st1, k1, ?_⟩
      show restK E H nt call ops hangs ((i, z) :: (l ++ r)) st1 x = some res
      unfold restK
      rw [e]; exact k2
    | false =>
      obtain ⟨st1, k1, k2⟩ := (restK_cons e).1 h
      have := restK_front l st1 (fun p hp => hl p (List.mem_cons_of_mem _ hp)) hj k2
      obtain ⟨st2, k3, k4⟩ := (restK_cons hj).1 this
      obtain ⟨st1', k5, k6⟩ := swap_nn (hl _ List.mem_cons_self) k1 k3
      exact (restK_cons hj).2 ⟨st1', k5, (restK_cons e).2 ⟨st2, k6, k4⟩⟩
end

/- What stands before what. -/
theorem foldl_bit (acc : List Nat) (j : Nat) : ∀ (l : List Edge) (s : Nat), (l.foldl (fun s e => bif Region.binds .any e then s ||| 2 ^ e.on ||| acc.getD e.on 0 else s) s).testBit j = true →
    s.testBit j = true ∨ ∃ e ∈ l, Region.binds .any e = true ∧ (j = e.on ∨ (acc.getD e.on 0).testBit j = true)
  | [], s, h => .inl h
  | e :: l, s, h => by
    rcases foldl_bit acc j l _ h with h | ⟨e', he', hb, hx⟩
    · cases hb : Region.binds .any e with
      | false => simp only [hb, cond_false] at h; exact .inl h
      | true =>
        simp only [hb, cond_true, Nat.testBit_or, Bool.or_eq_true] at h
        rcases h with (h | h) | h
        · exact .inl h
        · refine .inr ⟨e, List.mem_cons_self, hb, .inl ?_⟩
          rw [Nat.testBit_two_pow] at h
          exact (by simpa using h : e.on = j).symm
        · exact .inr ⟨e, List.mem_cons_self, hb, .inr h⟩
    · exact .inr ⟨e', List.mem_cons_of_mem _ he', hb, hx⟩

/-- A set of operations in which each one's predecessors lie. -/
def Closed (ops : Array Oper) (L : Nat → Prop) : Prop := ∀ i o, ops[i]? = some o → L i → ∀ e ∈ o.after, Region.binds .any e = true → L e.on

def Behind (ops : Array Oper) (k j : Nat) : Prop := ∀ L : Nat → Prop, Closed ops L → (∀ o, ops[k]? = some o → ∀ e ∈ o.after, Region.binds .any e = true → L e.on) → L j

theorem ancs_spec (ops : Array Oper) : ∀ (r : List Oper) (acc : List Nat), (∀ (k : Nat), r[k]? = ops[acc.length + k]?) → (∀ k j, k < acc.length → (acc.getD k 0).testBit j = true → Behind ops k j) →
    ∀ k j, k < (ancs r acc).length → ((ancs r acc).getD k 0).testBit j = true → Behind ops k j
  | [], acc, _, h => h
  | o :: r, acc, hr, h => by
    have ho : ops[acc.length]? = some o := by have := hr 0; simpa using this.symm
    refine ancs_spec ops r (acc ++ [ancOf acc o]) (fun k => ?_) (fun k j hk hb => ?_)
    · have := hr (k + 1)
      rw [List.getElem?_cons_succ] at this
      rw [this, List.length_append, List.length_singleton]
      congr 1; omega
    · by_cases hlt : k < acc.length
      · refine h k j hlt ?_
        rwa [List.getD_eq_getElem?_getD, List.getElem?_append_left hlt, ← List.getD_eq_getElem?_getD] at hb
      · have hk : k = acc.length := by rw [List.length_append, List.length_singleton] at hk; omega
        subst hk
        rw [List.getD_eq_getElem?_getD, List.getElem?_append_right (Nat.le_refl _)] at hb
        simp only [Nat.sub_self, List.getElem?_cons_zero, Option.getD_some] at hb
        rcases foldl_bit acc j o.after.toList 0 hb with h0 | ⟨e, he, hbi, hx⟩
        · simp at h0
        · intro L hcl hd
          have hle := hd o ho e (by simpa using he) hbi
          rcases hx with rfl | hx
          · exact hle
          · by_cases hel : e.on < acc.length
            · exact h e.on j hel hx L hcl (fun o' ho' => hcl e.on o' ho' hle)
            · rw [List.getD_eq_getElem?_getD, List.getElem?_eq_none (by omega)] at hx
              simp at hx

theorem ancs_len : ∀ (r : List Oper) (acc : List Nat), (ancs r acc).length = acc.length + r.length
  | [], acc => rfl
  | o :: r, acc => by rw [ancs, ancs_len r, List.length_append, List.length_singleton, List.length_cons]; omega

theorem anc_behind {k j : Nat} (h : ((ancs ops.toList []).getD k 0).testBit j = true) : Behind ops k j := by
  refine ancs_spec ops ops.toList [] (fun k => by simp) (fun k j hk => absurd hk (by simp)) k j ?_ h
  rcases Nat.lt_or_ge k (ancs ops.toList []).length with h' | h'
  · exact h'
  · rw [List.getD_eq_getElem?_getD, List.getElem?_eq_none h'] at h
    simp at h

theorem drawOk_spec {anc : List Nat} : ∀ {l : List (Nat × Oper)}, drawOk H ops anc l = true →
    (∀ p ∈ l, ∀ e ∈ p.2.after, Region.binds .any e = true → e.on < p.1) ∧
    (∀ (l1 l2 : List (Nat × Oper)) p, l = l1 ++ p :: l2 → ∀ q ∈ l1, (anc.getD q.1 0).testBit p.1 = false ∧ ((anc.getD p.1 0).testBit q.1 = true ∨ Past H ops q.2 p.2))
  | [], _ => ⟨fun p hp => (by cases hp), fun l1 l2 p h => (by cases l1 <;> cases h)⟩
  | (i, x) :: r, h => by
    unfold drawOk at h
    simp only [Bool.and_eq_true] at h
    obtain ⟨⟨h1, h2⟩, h3⟩ := h
    obtain ⟨k1, k2⟩ := drawOk_spec h3
    refine ⟨fun p hp => ?_, fun l1 l2 p e q hq => ?_⟩
    · rcases List.mem_cons.1 hp with e | e
      · subst e
        intro e he hb
        have := List.all_eq_true.1 h1 e (by simpa using he)
        rw [hb] at this
        simpa [Nat.blt_eq] using this
      · exact k1 p e
    · cases l1 with
      | nil => cases hq
      | cons z l1 =>
        have e1 := (List.cons.inj e).1; have e2 := (List.cons.inj e).2
        subst e1
        rcases List.mem_cons.1 hq with e3 | e3
        · subst e3
          have := List.all_eq_true.1 h2 p (by rw [e2]; simp)
          simp only [Bool.and_eq_true, Bool.or_eq_true] at this
          refine ⟨by simpa using this.1, this.2.imp id past_ok⟩
        · exact k2 l1 l2 p e2 q e3

theorem any_ok {ρ : Type} (ok : E.Ok) (hs : SoundC E.P call) {G0 : Gh} {w0 : World} {K : St → Option ρ} {Kp : AV → Heap → Option ρ} {res : ρ} {Q : Exit → Act → World → Prop} (hq : RegQ D d nt G0 w0 K Kp res Q)
    (hdo : drawOk H ops (ancs ops.toList []) (indexed ops) = true) :
    ∀ (fuel : Nat) (listed : Array Bool) (l : List (Nat × Oper)) (st : St) (a : Act) (G : Gh) (w : World), l = (indexed ops).filter (fun p => !listed.getD p.1 true) → l.length ≤ fuel → listed.size = ops.size → Closed ops (fun i => listed.getD i false = true) →
      opsD E H nt call ops (ancs ops.toList []) l st K Kp = some res → RepSt d G w st a.tmps → a.tmps.size = nt → a.defers = D → Fr d G0 w0 G w → wpAnyIn (FF ro) nn E.P .any ops Q fuel listed a w := by
  obtain ⟨d1, d2⟩ := drawOk_spec hdo
  obtain ⟨x1, x2⟩ := indexed_spec ops
  have hin : ∀ {i : Nat} {o : Oper}, ops[i]? = some o → (i, o) ∈ indexed ops := by
    intro i o h
    have hi : i ∈ (indexed ops).map Prod.fst := by rw [x1, List.mem_range]; exact (Array.getElem?_eq_some_iff.1 h).1
    obtain ⟨p, hp, e⟩ := List.mem_map.1 hi
    have := x2 p hp
    rw [e, h] at this
    have := Option.some.inj this
    subst e; rw [this]; exact hp
  have hnd : ((indexed ops).map Prod.fst).Nodup := by rw [x1]; exact List.nodup_range
  -- the first that is left is ready
  have hready : ∀ (listed : Array Bool), listed.size = ops.size → Region.ready .any ops listed = [] → (indexed ops).filter (fun p => !listed.getD p.1 true) = [] := by
    intro listed hsz hr
    cases hl : (indexed ops).filter (fun p => !listed.getD p.1 true) with
    | nil => rfl
    | cons p l =>
      exfalso
      have hp : p ∈ (indexed ops).filter (fun p => !listed.getD p.1 true) := by rw [hl]; exact List.mem_cons_self
      obtain ⟨hp1, hp2⟩ := List.mem_filter.1 hp
      -- take the least
      have key : ∀ n i o, i ≤ n → ops[i]? = some o → listed.getD i true = false → False := by
        intro n
        induction n using Nat.strongRecOn with
        | _ n ih =>
          intro i o hin' ho hli
          have : i ∈ Region.ready .any ops listed := by
            rw [mem_ready]
            refine ⟨hli, o, ho, fun e he hb => ?_⟩
            have hlt := d1 _ (hin ho) e he hb
            cases hle : listed.getD e.on true with
            | true =>
              have hlt2 : e.on < listed.size := by
                have := (Array.getElem?_eq_some_iff.1 ho).1
                rw [hsz]; exact Nat.lt_trans hlt this
              rw [Array.getD_eq_getD_getElem?, Array.getElem?_eq_getElem hlt2] at hle ⊢
              exact hle
            | false =>
              exfalso
              have hlt3 : e.on < ops.size := Nat.lt_trans hlt (Array.getElem?_eq_some_iff.1 ho).1
              exact ih e.on (by omega) e.on _ (Nat.le_refl _) (Array.getElem?_eq_getElem hlt3) hle
          rw [hr] at this; cases this
      exact key p.1 p.1 p.2 (Nat.le_refl _) (x2 p hp1) (by simpa using hp2)
  intro fuel
  induction fuel with
  | zero =>
    intro listed l st a G w hl hlen hsz hcl h r hnt hd hf
    have : l = [] := List.eq_nil_of_length_eq_zero (by omega)
    subst this
    refine ⟨?_, hq.norm st a G w h r hnt hd hf⟩
    cases hr : Region.ready .any ops listed with
    | nil => rfl
    | cons i rs =>
      exfalso
      have hi : i ∈ Region.ready .any ops listed := by rw [hr]; exact List.mem_cons_self
      rw [mem_ready] at hi
      obtain ⟨h1, o, h2, _⟩ := hi
      have : (i, o) ∈ ([] : List (Nat × Oper)) := by
        rw [hl]; exact List.mem_filter.2 ⟨hin h2, by rw [h1]; rfl⟩
      cases this
  | succ fuel ih =>
    intro listed l st a G w hl hlen hsz hcl h r hnt hd hf
    refine ⟨fun hr => ?_, fun i hi => ?_⟩
    · have : l = [] := by rw [hl]; exact hready listed hsz hr
      subst this
      exact hq.norm st a G w h r hnt hd hf
    · rw [mem_ready] at hi
      obtain ⟨h1, o, h2, h3⟩ := hi
      have hmem : (i, o) ∈ l := by rw [hl]; exact List.mem_filter.2 ⟨hin h2, by rw [h1]; rfl⟩
      obtain ⟨l1, l2, hsplit⟩ := List.append_of_mem hmem
      -- where it stands in the whole
      have hsub : ∀ q ∈ l1, ((ancs ops.toList []).getD q.1 0).testBit i = false ∧ (((ancs ops.toList []).getD i 0).testBit q.1 = true ∨ Past H ops q.2 o) := by
        intro q hq1
        have hq2 : [q, (i, o)].Sublist (indexed ops) := by
          have s1 : [q, (i, o)].Sublist l := by
            rw [hsplit]
            have : [q].Sublist l1 := List.singleton_sublist.2 hq1
            exact this.append (List.cons_sublist_cons.2 (List.nil_sublist _))
          rw [hl] at s1
          exact s1.trans List.filter_sublist
        obtain ⟨m1, m2, hm, hqm, him⟩ : ∃ m1 m2, indexed ops = m1 ++ m2 ∧ q ∈ m1 ∧ (i, o) ∈ m2 := by
          obtain ⟨m1, m2, hm, s1, s2⟩ := List.cons_sublist_iff.1 hq2
          exact ⟨m1, m2, hm, s1, List.singleton_sublist.1 s2⟩
        obtain ⟨n1, n2, hn⟩ := List.append_of_mem him
        exact d2 (m1 ++ n1) n2 (i, o) (by rw [hm, hn, List.append_assoc]) q (List.mem_append_left _ hqm)
      have hpast : ∀ q ∈ l1, Past H ops q.2 o ∧ ((ancs ops.toList []).getD q.1 0).testBit i = false ∧ ((ancs ops.toList []).getD i 0).testBit q.1 = false := by
        intro q hq1
        obtain ⟨k1, k2⟩ := hsub q hq1
        have hnot : ((ancs ops.toList []).getD i 0).testBit q.1 = false := by
          cases hb : ((ancs ops.toList []).getD i 0).testBit q.1 with
          | false => rfl
          | true =>
            exfalso
            have := anc_behind hb (fun k => listed.getD k false = true) hcl (fun o' ho' e he hbi => by
              rw [h2] at ho'; cases ho'; exact h3 e he hbi)
            have hql : q ∈ l := by rw [hsplit]; exact List.mem_append_left _ hq1
            rw [hl] at hql
            have h4 := (List.mem_filter.1 hql).2
            have hqs : q.1 < listed.size := by
              rw [hsz]; exact (Array.getElem?_eq_some_iff.1 (x2 q (List.mem_filter.1 hql).1)).1
            rw [Array.getD_eq_getD_getElem?, Array.getElem?_eq_getElem hqs] at this h4
            have this : listed[q.1] = true := this
            simp [this] at h4
        exact ⟨k2.resolve_left (by rw [hnot]; simp), k1, hnot⟩
      rw [hsplit] at h
      have h := opsD_front l1 st hpast h
      have hil : i < listed.size := by rw [hsz]; exact (Array.getElem?_eq_some_iff.1 h2).1
      have hl' : l1 ++ l2 = (indexed ops).filter (fun p => !(listed.setIfInBounds i true).getD p.1 true) := by
        have e1 : (indexed ops).filter (fun p => !(listed.setIfInBounds i true).getD p.1 true) = l.filter (fun p => p.1 != i) := by
          rw [hl, List.filter_filter]
          refine List.filter_congr fun p hp => ?_
          by_cases e : p.1 = i
          · subst e
            simp [hil]
          · rw [getD_set_ne true (fun e' => e e'.symm)]
            simp [e]
        rw [e1, hsplit, List.filter_append, List.filter_cons]
        have hnd2 : (l.map Prod.fst).Nodup := by
          rw [hl]; exact (List.filter_sublist.map Prod.fst).nodup hnd
        rw [hsplit, List.map_append, List.map_cons, List.nodup_append] at hnd2
        obtain ⟨_, n2, n3⟩ := hnd2
        simp only [bne_self_eq_false, Bool.false_eq_true, if_false]
        congr 1
        · refine (List.filter_eq_self.2 fun p hp => ?_).symm
          have := n3 p.1 (List.mem_map_of_mem hp) i List.mem_cons_self
          simpa using this
        · refine (List.filter_eq_self.2 fun p hp => ?_).symm
          have := (List.nodup_cons.1 n2).1
          have hne : p.1 ≠ i := fun e => this (List.mem_map.2 ⟨p, hp, e⟩)
          simpa using hne
      have hlen' : (l1 ++ l2).length ≤ fuel := by
        have := congrArg List.length hsplit
        simp only [List.length_append, List.length_cons] at this ⊢
        omega
      have hcl' : Closed ops (fun k => (listed.setIfInBounds i true).getD k false = true) := by
        intro k o' ho' hk e he hbi
        by_cases ek : k = i
        · subst ek
          rw [h2] at ho'; cases ho'
          exact getD_set_true (h3 e he hbi)
        · have hk' : (listed.setIfInBounds i true).getD k false = true := hk
          rw [getD_set_ne false (fun e' => ek e'.symm)] at hk'
          exact getD_set_true (hcl k o' ho' hk' e he hbi)
      rcases opsD_cons.1 h with ⟨st1, k1, k2⟩ | ⟨p, k1, hw, k2⟩
      · have hstep := step_ok (ro := ro) (nn := nn) ok hs h2 hnt r k1
        refine hstep.1 st1 rfl _ _ fun a' G' w' r' hnt' hd' hf' => ?_
        exact ih _ (l1 ++ l2) st1 a' G' w' hl' hlen' (by simpa using hsz) hcl' k2 r' hnt' (hd'.trans hd) (hf.trans hf')
      · have hstep := step_ok (ro := ro) (nn := nn) ok hs h2 hnt r k1
        refine (hstep.2 p.1 p.2 rfl).2 _ _ fun G' w' v g1 g2 g3 g4 => ?_
        exact hq.pan _ _ a G' w' v (restK_x k2) g1 g2 g3 hd (hf.trans g4)

theorem RepSt.drew {tmps : Array Value} (r : RepSt d G w st tmps) : RepSt d G w.drew st tmps := by
  have := r.next (w' := w.drew) ext_drew none undef (fun _ e => by cases e) rfl [] st.h (fun _ e => by cases e) (fun _ _ hm => by cases hm) (fun _ _ _ hm => by cases hm) (fun _ _ _ _ _ => ⟨rfl, rfl, rfl⟩) (r.heap.mono' ext_drew rfl (fun _ _ _ _ => ⟨rfl, rfl, rfl⟩) (fun _ _ _ _ _ => ⟨rfl, rfl, rfl⟩)) r.within
  exact this

theorem draw_ok {ρ : Type} (ok : E.Ok) (hs : SoundC E.P call) {G0 : Gh} {w0 : World} {K : St → Option ρ} {Kp : AV → Heap → Option ρ} {res : ρ} {Q : Exit → Act → World → Prop} (hq : RegQ D d nt G0 w0 K Kp res Q) {id : Nat}
    (hdo : drawOk H ops (ancs ops.toList []) (indexed ops) = true) (h : opsD E H nt call ops (ancs ops.toList []) (indexed ops) st K Kp = some res) (r : RepSt d G w st a.tmps) (hnt : a.tmps.size = nt) (hd : a.defers = D) (hf : Fr d G0 w0 G w) : (Code.region id ops true).wpIn (FF ro) nn E.P Q a w := by
  refine wpIn_region_any ok.mixed ?_
  refine any_ok ok hs hq hdo ops.size (Array.replicate ops.size false) (indexed ops) st a G w.drew ?_ (by simp [indexed]) (by simp) ?_ h r.drew hnt hd (hf.trans fr_drew)
  · refine (List.filter_eq_self.2 fun p hp => ?_).symm
    have := (Array.getElem?_eq_some_iff.1 ((indexed_spec ops).2 p hp)).1
    simp [Array.getD_eq_getD_getElem?, Array.getElem?_replicate, this]
  · intro i o ho hi
    exfalso
    have hi : (Array.replicate ops.size false).getD i false = true := hi
    rw [Array.getD_eq_getD_getElem?, Array.getElem?_replicate] at hi
    split at hi <;> simp at hi

end
end Go.Sh

/- Code: blocks, loops, branches. -/
namespace Go.Sh
open Go
set_option linter.unusedVariables false
set_option linter.unusedSimpArgs false

section
variable {E : Env} {H : FHint} {call : Nat → List AV → Heap → R} {d : Nat} {G : Gh} {w : World} {st : St} {a : Act} {nt n nn : Nat} {ro : Option Nat} {D : List Deferred}

theorem RepSlot.noPath {i : Nat} {s : Slot} {v : Value} (h : RepSlot G w d i s v) : RepSlot G w d i s.noPath v := by
  cases s <;> first | exact h | trivial

theorem RepSlot.norm {i : Nat} {s : Slot} {v : Value} (h : RepSlot G w d i s v) : RepSlot G w d i s.norm v := by
  cases s with
  | c x => exact RepCell.norm h
  | loc cs => obtain ⟨b, arr, T, h1, h2, h3, h4, h5⟩ := h; exact ⟨b, arr, T, h1, h2, h3, h4, h5.norm⟩
  | path t o => trivial
  | _ => exact h

theorem noPath_ne {s : Slot} {t o : Nat} : s.noPath ≠ .path t o := by cases s <;> intro h <;> cases h
theorem norm_ne {s : Slot} {t o : Nat} : s.norm ≠ .path t o := by cases s <;> intro h <;> cases h

theorem RepSt.endReg {tmps : Array Value} (r : RepSt d G w st tmps) : RepSt d G w st.endReg tmps :=
  ⟨fun i => (r.slot i).noPath, fun u t off h => absurd h noPath_ne, r.heap, r.within⟩

theorem lkS_spec (l : List (Nat × Slot)) (t : Nat) : lkS l t = .dead ∨ (t, lkS l t) ∈ l := by
  induction l with
  | nil => exact .inl rfl
  | cons p r ih =>
    obtain ⟨x, s⟩ := p
    unfold lkS
    cases e : Nat.beq x t with
    | true => have := beqE e; subst this; exact .inr List.mem_cons_self
    | false => exact ih.imp id (fun h => List.mem_cons_of_mem _ h)

theorem RepSt.keep {tmps : Array Value} (l : Option (List Nat)) (r : RepSt d G w st tmps) : RepSt d G w (st.keep l) tmps := by
  cases l with
  | none => exact r
  | some l =>
    refine ⟨fun i => ?_, fun u t off h => ?_, r.heap, r.within⟩
    · show RepSlot G w d i (lkS (l.map fun t => (t, (st.s t).norm)) i) _
      rcases lkS_spec (l.map fun t => (t, (st.s t).norm)) i with e | e
      · rw [e]; trivial
      · obtain ⟨t, _, e2⟩ := List.mem_map.1 e
        have e1 := (Prod.mk.inj e2).1; have e3 := (Prod.mk.inj e2).2
        subst e1; rw [← e3]; exact (r.slot t).norm
    · have h : lkS (l.map fun t => (t, (st.s t).norm)) u = .path t off := h
      rcases lkS_spec (l.map fun t => (t, (st.s t).norm)) u with e | e
      · rw [e] at h; cases h
      · obtain ⟨t', _, e2⟩ := List.mem_map.1 e
        have e3 := (Prod.mk.inj e2).2
        rw [h] at e3; exact absurd e3 norm_ne

/-- What a state must be for code's condition. -/
def AtSt (d nt : Nat) (G0 : Gh) (w0 : World) (st : St) (a : Act) (w : World) : Prop := ∃ G, RepSt d G w st a.tmps ∧ a.tmps.size = nt ∧ Fr d G0 w0 G w

theorem QK.norm {G0 : Gh} {w0 : World} {ρ : Type} {K : Ex → St → Option ρ} {Kp : AV → Heap → Option ρ} {res : ρ} (hd : a.defers = D) (h : K .normal st = some res) (h' : AtSt d nt G0 w0 st a w) : QK D d G0 w0 nt K Kp res .normal a w := by
  obtain ⟨G, h1, h2, h3⟩ := h'
  exact ⟨hd, st, G, h, h1, h2, h3⟩

theorem evC_ok (ok : E.Ok) (hs : SoundC E.P call) {ρ : Type} {G0 : Gh} {w0 : World} {res : ρ} {Kp : AV → Heap → Option ρ} : ∀ (c : Code) (bi : Nat) (st : St) (K : Ex → St → Option ρ) (a : Act) (w : World),
    evC E H nt call n c bi st K Kp = some res → AtSt d nt G0 w0 st a w → a.defers = D → c.wpIn (FF ro) nn E.P (QK D d G0 w0 nt K Kp res) a w := by
  intro c
  induction c with
  | skip => intro bi st K a w h hat hd; exact wpIn_skip (QK.norm hd h hat)
  | region id ops draw =>
    intro bi st K a w h hat hd
    obtain ⟨G, r, hnt, hf⟩ := hat
    have hq : RegQ D d nt G0 w0 (fun st' => st'.endReg.cutK n (lkN H.keepR id) (K .normal)) Kp res (QK D d G0 w0 nt K Kp res) :=
      ⟨fun st' a' G' w' h1 h2 h3 h4 h5 => QK.norm h4 (cutK_eq h1) ⟨G', h2.endReg.keep _, h3, h5⟩, fun x h' a' G' w' v h1 h2 h3 h4 h5 h6 => ⟨h5, x, v, G', h', rfl, h1, h2, h3, h4, h6⟩⟩
    unfold evC at h
    cases draw with
    | true =>
      simp only [cond_true] at h
      obtain ⟨hdo, h⟩ := condE h
      exact draw_ok ok hs hq hdo h r hnt hd hf
    | false => exact region_ok ok hs hq h r hnt hd hf
  | seq x y ihx ihy =>
    intro bi st K a w h hat hd
    unfold evC at h
    refine wpIn_seq (Code.wpIn_mono (fun e a' w' hq => ?_) (ihx bi st _ a w h hat hd))
    obtain ⟨hd', hq⟩ := hq
    cases e with
    | normal => obtain ⟨st', G', h1, h2, h3, h4⟩ := hq; exact ihy bi st' K a' w' h1 ⟨G', h2, h3, h4⟩ hd'
    | exit i => exact ⟨hd', hq⟩
    | ret => exact ⟨hd', hq⟩
    | panic ch => exact ⟨hd', hq⟩
    | goto l => exact hq.elim
    | outgrown => exact hq.elim
  | cond c x y ihx ihy =>
    intro bi st K a w h hat hd
    unfold evC at h
    rw [Option.bind_eq_some_iff] at h; obtain ⟨v, hv, h⟩ := h
    rw [Option.bind_eq_some_iff] at h; obtain ⟨t, ht, h⟩ := h
    have e := boolOf_eq ht; subst e
    have hat' := hat
    obtain ⟨G, r, hnt, hf⟩ := hat'
    have hb := (rdA_rep (fun t => r.slot t) hv).litE
    cases t with
    | true => exact wpIn_cond_true hb (ihx bi st K a w h hat hd)
    | false => exact wpIn_cond_false hb (ihy bi st K a w h hat hd)
  | block i c ih =>
    intro bi st K a w h hat hd
    unfold evC at h
    refine wpIn_block (Code.wpIn_mono (fun e a' w' hq => ?_) (ih i st _ a w h hat hd))
    obtain ⟨hd', hq⟩ := hq
    cases e with
    | normal => obtain ⟨st', G', h1, h2, h3, h4⟩ := hq; exact QK.norm (Kp := Kp) hd' h1 ⟨G', h2.keep _, h3, h4⟩
    | exit j =>
      obtain ⟨st', G', h1, h2, h3, h4⟩ := hq
      show if j = i then _ else _
      by_cases e : j = i
      · subst e
        rw [if_pos rfl]
        simp only [show Nat.beq j j = true from by simp, cond_true] at h1
        exact QK.norm (Kp := Kp) hd' h1 ⟨G', h2.keep _, h3, h4⟩
      · rw [if_neg e]
        simp only [beqF e, cond_false] at h1
        exact ⟨hd', st', G', h1, h2, h3, h4⟩
    | ret => exact ⟨hd', hq⟩
    | panic ch => exact ⟨hd', hq⟩
    | goto l => exact hq.elim
    | outgrown => exact hq.elim
  | loop c ih =>
    intro bi st K a w h hat hd
    unfold evC at h
    refine wpIn_loop_rounds n ?_
    have key : ∀ (m : Nat) (st : St) (a : Act) (w : World), loopK (fun st K => evC E H nt call n c bi st (fun e st' => match e with
      | .normal => K .normal (st'.keep (lkN H.keep bi))
      | .exit i => K (.exit i) st'
      | .ret => K .ret st') Kp) m st K = some res → AtSt d nt G0 w0 st a w → a.defers = D → Code.roundsIn (FF ro) nn E.P c (QK D d G0 w0 nt K Kp res) m a w := by
      intro m
      induction m with
      | zero => intro st a w h; cases h
      | succ m ihm =>
        intro st a w h hat hd
        unfold loopK at h
        rw [roundsIn_succ]
        refine Code.wpIn_mono (fun e a' w' hq => ?_) (ih bi _ _ a w h hat hd)
        obtain ⟨hd', hq⟩ := hq
        cases e with
        | normal => obtain ⟨st', G', h1, h2, h3, h4⟩ := hq; exact ihm _ a' w' h1 ⟨G', h2.keep _, h3, h4⟩ hd'
        | exit i => exact ⟨hd', hq⟩
        | ret => exact ⟨hd', hq⟩
        | panic ch => exact ⟨hd', hq⟩
        | goto l => exact hq.elim
        | outgrown => exact hq.elim
    obtain ⟨G, r, hnt, hf⟩ := hat
    exact key n _ a w h ⟨G, r.keep _, hnt, hf⟩ hd
  | exit i =>
    intro bi st K a w h hat hd
    obtain ⟨G, r, hnt, hf⟩ := hat
    exact wpIn_exit ⟨hd, st, G, h, r, hnt, hf⟩
  | ret =>
    intro bi st K a w h hat hd
    obtain ⟨G, r, hnt, hf⟩ := hat
    exact wpIn_ret ⟨hd, st, G, h, r, hnt, hf⟩
  | _ => intro bi st K a w h hat hd; unfold evC at h; cases h

end
end Go.Sh

/- Functions: what comes out. -/
namespace Go.Sh
open Go
set_option linter.unusedVariables false
set_option linter.unusedSimpArgs false

mutual
theorem RepA.trunc {S : Nat → Nat} {w : World} {μ : List Nat} {n : Nat} : {a : AV} → {v : Value} → RepA S w μ a v → AV.lt n a → RepA S w (μ.take n) a v
  | _, _, .lit h, _ => .lit h
  | _, _, .agg h, hl => .agg (RepC.trunc h (by cases hl; assumption))
  | _, _, .tup h, hl => .tup (RepL.trunc h (by cases hl; assumption))
  | _, _, .slN n, _ => .slN n
  | _, _, .slE n a, _ => .slE n a
  | _, _, .sl hc hr hv hs hn, hl => .sl hc hr (RepC.trunc hv (by
      cases hl with
      | sl _ h => intro a ha; obtain ⟨e, he, ha⟩ := List.mem_flatten.1 ha; exact h e he a ha)) hs hn
  | _, _, .hp off h, hl => .hp off (by
      cases hl with
      | hp _ hi => rw [List.getElem?_take_of_lt hi]; exact h)
  | _, _, .hs off len cap h hc hz, hl => .hs off len cap (by
      cases hl with
      | hs _ _ _ hi => rw [List.getElem?_take_of_lt hi]; exact h) hc hz
  | _, _, .ro hr hv hs, hl => .ro hr (RepC.trunc hv (by cases hl; assumption)) hs
  | _, _, .fn h h', hl => .fn (RepL.trunc h (by cases hl; assumption)) (RepL.trunc h' (by cases hl; assumption))
  | _, _, .ifc h, hl => .ifc (RepA.trunc h (by cases hl; assumption))
  | _, _, .dead v, _ => .dead v
theorem RepL.trunc {S : Nat → Nat} {w : World} {μ : List Nat} {n : Nat} : {l : List AV} → {m : List Value} → RepL S w μ l m → (∀ a ∈ l, AV.lt n a) → RepL S w (μ.take n) l m
  | _, _, .nil, _ => .nil
  | _, _, .cons h t, hl => .cons (RepA.trunc h (hl _ List.mem_cons_self)) (RepL.trunc t fun a ha => hl a (List.mem_cons_of_mem _ ha))
theorem RepC.trunc {S : Nat → Nat} {w : World} {μ : List Nat} {n : Nat} : {l : List AV} → {m : List Value} → RepC S w μ l m → (∀ a ∈ l, AV.lt n a) → RepC S w (μ.take n) l m
  | _, _, .nil, _ => .nil
  | _, _, .cons h o t, hl => .cons (RepA.trunc h (hl _ List.mem_cons_self)) o (RepC.trunc t fun a ha => hl a (List.mem_cons_of_mem _ ha))
end

mutual
theorem RepA.bounded {S : Nat → Nat} {w : World} {μ : List Nat} : {a : AV} → {v : Value} → RepA S w μ a v → AV.lt μ.length a
  | _, _, .lit h => .lit _
  | _, _, .agg h => .agg (RepC.bounded h)
  | _, _, .tup h => .tup (RepL.bounded h)
  | _, _, .slN n => .sl _ (fun _ h => by cases h)
  | _, _, .slE n a => .sl _ (fun _ h => by cases h)
  | _, _, .sl hc hr hv hs hn => .sl _ (fun e he a ha => RepC.bounded hv a (List.mem_flatten.2 ⟨e, he, ha⟩))
  | _, _, .hp off h => .hp off (List.getElem?_eq_some_iff.1 h).1
  | _, _, .hs off len cap h hc _ => .hs _ off len (List.getElem?_eq_some_iff.1 h).1
  | _, _, .ro hr hv hs => .ro (RepC.bounded hv)
  | _, _, .fn h h' => .fn _ (RepL.bounded h) (RepL.bounded h')
  | _, _, .ifc h => .ifc _ (RepA.bounded h)
  | _, _, .dead v => .dead
theorem RepL.bounded {S : Nat → Nat} {w : World} {μ : List Nat} : {l : List AV} → {m : List Value} → RepL S w μ l m → ∀ a ∈ l, AV.lt μ.length a
  | _, _, .nil => fun a ha => by cases ha
  | _, _, .cons h t => fun a ha => by
    rcases List.mem_cons.1 ha with e | e
    · rw [e]; exact RepA.bounded h
    · exact RepL.bounded t a e
theorem RepC.bounded {S : Nat → Nat} {w : World} {μ : List Nat} : {l : List AV} → {m : List Value} → RepC S w μ l m → ∀ a ∈ l, AV.lt μ.length a
  | _, _, .nil => fun a ha => by cases ha
  | _, _, .cons h o t => fun a ha => by
    rcases List.mem_cons.1 ha with e | e
    · rw [e]; exact RepA.bounded h
    · exact RepC.bounded t a e
end

section
variable {S S' : Nat → Nat} {w : World} {μ : List Nat} {n : Nat} {hh : Heap}
mutual
/-- What is read out of the part of the heap that goes. -/
theorem RepA.res (hS : ∀ b, S b ≤ S' b) (hb : ∀ i b cs, n ≤ i → μ[i]? = some b → hh[i]? = some cs → cs ≠ [] → ∃ arr T fz, w.heap[b]? = some (.cells arr T fz) ∧ S' b = arr.size ∧ cs.length ≤ arr.size ∧ RepC S w μ (cs.map Cell.get) (arr.toList.take cs.length)) :
    {a : AV} → {v : Value} → RepA S w μ a v → AV.lt n (resA n hh a) → RepA S' w (μ.take n) (resA n hh a) v
  | _, _, .lit h, _ => by rw [resA]; exact .lit h
  | _, _, .agg h, hl => by
    rw [resA] at hl ⊢
    exact .agg (RepC.res hS hb h (by cases hl; assumption))
  | _, _, .tup h, hl => by
    rw [resA] at hl ⊢
    exact .tup (RepL.res hS hb h (by cases hl; assumption))
  | _, _, .slN m, _ => by rw [resA]; exact .slN m
  | _, _, .slE m a, _ => by rw [resA]; exact .slE m a
  | _, _, .sl hc hr hv hs hn, hl => by
    rw [resA] at hl ⊢
    exact RepA.mono ⟨hS, fun _ _ _ _ _ h => h, fun _ _ h => h, fun _ => Nat.le_refl _⟩ (RepA.trunc (.sl hc hr hv hs hn) hl)
  | _, _, .hp off h, hl => by
    rw [resA] at hl ⊢
    exact RepA.mono ⟨hS, fun _ _ _ _ _ h => h, fun _ _ h => h, fun _ => Nat.le_refl _⟩ (RepA.trunc (S := S) (w := w) (.hp off h) hl)
  | _, _, .hs (n := m) (i := i) (b := b) off len cap h hc hz, hl => by
    have keep : AV.lt n (.hs m i off len) → RepA S' w (μ.take n) (.hs m i off len) (.slice (some ⟨b, off, none⟩) len cap) := fun hl =>
      RepA.mono ⟨hS, fun _ _ _ _ _ h => h, fun _ _ h => h, fun _ => Nat.le_refl _⟩ (RepA.trunc (S := S) (w := w) (.hs off len cap h hc hz) hl)
    rw [resA] at hl ⊢
    cases hk : Nat.ble n i with
    | false => rw [hk, cond_false] at hl; rw [cond_false]; exact keep hl
    | true =>
      rw [hk, cond_true] at hl; rw [cond_true]
      cases hi : hh[i]? with
      | none => rw [hi] at hl; exact keep hl
      | some cs =>
        rw [hi] at hl
        simp only at hl ⊢
        cases hle : (!cs.isEmpty && Nat.ble (off + len * m) cs.length) with
        | false => rw [hle, cond_false] at hl; rw [cond_false]; exact keep hl
        | true =>
          rw [hle, cond_true] at hl; rw [cond_true]
          rw [Bool.and_eq_true] at hle
          have hcn : cs ≠ [] := fun e => by rw [e] at hle; simp at hle
          have hle := Nat.le_of_ble_eq_true hle.2
          obtain ⟨arr, T, fz, h1, h2, hcl, h3⟩ := hb i b cs (Nat.le_of_ble_eq_true hk) h hi hcn
          have hlen : (((cs.map Cell.get).drop off).take (len * m)).length = len * m := by
            rw [List.length_take, List.length_drop, List.length_map]; omega
          obtain ⟨k1, k2, k3⟩ := chunks_ok (n := m) len _ hlen
          have hrep := (h3.drop off).take (len * m)
          rw [show ((arr.toList.take cs.length).drop off).take (len * m) = (arr.toList.drop off).take (len * m) from by rw [List.drop_take, List.take_take, Nat.min_eq_left (by omega)]] at hrep
          have hgoal : RepA S' w (μ.take n) (.sl m (chunks m len (((cs.map Cell.get).drop off).take (len * m)))) (.slice (some ⟨b, off, none⟩) (chunks m len (((cs.map Cell.get).drop off).take (len * m))).length cap) := by
            refine .sl (vals := (arr.toList.drop off).take (len * m)) (by rw [k3]; exact hc) ?_ ?_ (by rw [k1, hlen, h2]; omega) k2
            · rw [k1, hlen]
              unfold row?
              rw [h1]
              simp only
              rw [if_pos (by omega)]
            · rw [k1]
              refine RepC.mono ⟨hS, fun _ _ _ _ _ h => h, fun _ _ h => h, fun _ => Nat.le_refl _⟩ (RepC.trunc hrep fun a ha => ?_)
              cases hl with
              | sl _ hl => rw [← k1] at ha; obtain ⟨e, he, ha⟩ := List.mem_flatten.1 ha; exact hl e he a ha
          rw [k3] at hgoal
          exact hgoal
  | _, _, .ro hr hv hs, hl => by
    rw [resA] at hl ⊢
    exact RepA.mono ⟨hS, fun _ _ _ _ _ h => h, fun _ _ h => h, fun _ => Nat.le_refl _⟩ (RepA.trunc (.ro hr hv hs) hl)
  | _, _, .fn h h', hl => by
    rw [resA] at hl ⊢
    exact RepA.mono ⟨hS, fun _ _ _ _ _ h => h, fun _ _ h => h, fun _ => Nat.le_refl _⟩ (RepA.trunc (.fn h h') hl)
  | _, _, .ifc h, hl => by
    rw [resA] at hl ⊢
    exact RepA.mono ⟨hS, fun _ _ _ _ _ h => h, fun _ _ h => h, fun _ => Nat.le_refl _⟩ (RepA.trunc (.ifc h) hl)
  | _, _, .dead v, _ => by rw [resA]; exact .dead v
theorem RepL.res (hS : ∀ b, S b ≤ S' b) (hb : ∀ i b cs, n ≤ i → μ[i]? = some b → hh[i]? = some cs → cs ≠ [] → ∃ arr T fz, w.heap[b]? = some (.cells arr T fz) ∧ S' b = arr.size ∧ cs.length ≤ arr.size ∧ RepC S w μ (cs.map Cell.get) (arr.toList.take cs.length)) :
    {l : List AV} → {m : List Value} → RepL S w μ l m → (∀ a ∈ resL n hh l, AV.lt n a) → RepL S' w (μ.take n) (resL n hh l) m
  | _, _, .nil, _ => by rw [resL]; exact .nil
  | _, _, .cons h t, hl => by
    rw [resL] at hl ⊢
    exact .cons (RepA.res hS hb h (hl _ List.mem_cons_self)) (RepL.res hS hb t fun a ha => hl a (List.mem_cons_of_mem _ ha))
theorem RepC.res (hS : ∀ b, S b ≤ S' b) (hb : ∀ i b cs, n ≤ i → μ[i]? = some b → hh[i]? = some cs → cs ≠ [] → ∃ arr T fz, w.heap[b]? = some (.cells arr T fz) ∧ S' b = arr.size ∧ cs.length ≤ arr.size ∧ RepC S w μ (cs.map Cell.get) (arr.toList.take cs.length)) :
    {l : List AV} → {m : List Value} → RepC S w μ l m → (∀ a ∈ resL n hh l, AV.lt n a) → RepC S' w (μ.take n) (resL n hh l) m
  | _, _, .nil, _ => by rw [resL]; exact .nil
  | _, _, .cons h o t, hl => by
    rw [resL] at hl ⊢
    exact .cons (RepA.res hS hb h (hl _ List.mem_cons_self)) o (RepC.res hS hb t fun a ha => hl a (List.mem_cons_of_mem _ ha))
end
end

section
variable {E : Env} {H : FHint} {call : Nat → List AV → Heap → R} {d : Nat} {G : Gh} {w : World} {st : St} {a : Act} {nt n : Nat}

def cut (G : Gh) (n : Nat) : Gh := { S := G.S, O := G.O, μ := G.μ.take n }

theorem RepCell.trunc {p : Owner} {c : Cell} {v : Value} (h : RepCell G w p c v) (hl : c.get.lt n) : RepCell (cut G n) w p c v := by
  cases c with
  | v a => exact RepA.trunc h hl
  | nil m => exact h
  | own m es =>
    rcases h with h | ⟨b, cap, arr, T, hv, ho, hh, ha, hc, hS, hr, hn⟩
    · exact .inl h
    · refine .inr ⟨b, cap, arr, T, hv, ho, hh, ha, hc, hS, hr.trunc ?_, hn⟩
      cases hl with
      | sl _ h => intro a ha; obtain ⟨e, he, ha⟩ := List.mem_flatten.1 ha; exact h e he a ha

theorem RepCell.bounded {p : Owner} {c : Cell} {v : Value} (h : RepCell G w p c v) : c.get.lt G.μ.length := h.get.bounded

theorem numC_lt (n : Nat) (l : List Int) : AV.lt n (.ro (numC l)) := .ro fun a ha => by
  obtain ⟨x, _, rfl⟩ := List.mem_map.1 ha; exact .lit _
theorem RepTail.trunc {pf : Nat → Owner} {cs : List Cell} {arr : Array Value} (h : RepTail G w pf cs arr) (hl : ∀ c ∈ cs, c.get.lt n) : RepTail (cut G n) w pf cs arr := by
  refine ⟨h.1, fun j c hj => ?_⟩
  obtain ⟨x, hx, hrc, hone⟩ := h.2 j c hj
  exact ⟨x, hx, hrc.trunc (hl c (List.mem_of_getElem? hj)), hone⟩
theorem RepHeap.bounded {h : Heap} (hh : RepHeap G w h) : Heap.lt h.length h := by
  intro cs hcs c hc
  obtain ⟨i, hi⟩ := List.mem_iff_getElem?.1 hcs
  obtain ⟨b, arr, T, _, _, _, _, hb⟩ := hh.2.1 i cs hi (by intro e; rw [e] at hc; simp at hc)
  obtain ⟨j, hj⟩ := List.mem_iff_getElem?.1 hc
  obtain ⟨x, _, hr, _⟩ := hb.get hj
  rw [← hh.1]; exact hr.bounded

/-- What a function hands out. -/
def EndVal (d : Nat) (G : Gh) (w : World) : Out → Value → Prop
  | .ret a, v => RepA G.S w G.μ a v
  | .own n es, v => ∃ t, RepCell G w (.sl d t) (.own n es) v
  | .pan a, v => RepA G.S w G.μ a v

theorem trunc_ok {G0 : Gh} {w0 : World} {h hh h' : Heap} {out out' : Out} {v : Value} (h0 : RepHeap G0 w0 h) (hf : Fr d G0 w0 G w) (hr : RepHeap G w hh) (hw : Within G w) (hv : EndVal d G w out v)
    (ht : trunc H h out hh = some (out', h')) : out' = out ∧ ∃ G', Fr d G0 w0 G' w ∧ RepHeap G' w h' ∧ Within G' w ∧ EndVal d G' w out v := by
  cases he : H.hb.isEmpty || H.esc with
  | true =>
    unfold trunc at ht
    rw [he] at ht
    have ht := Option.some.inj ht; cases ht
    exact ⟨rfl, G, hf, hr, hw, hv⟩
  | false =>
    obtain ⟨ht, h1, h2, h3⟩ := trunc_cases he ht
    · cases ht
      have h3 : Heap.lt h.length (hh.take h.length) := by
        rcases h3 with e | e
        · rw [e]; exact h0.bounded
        · exact e
      refine ⟨rfl, cut G h.length, ⟨hf.os, hf.tape, hf.output, hf.size, ⟨hf.ext.le, hf.ext.row, fun i b hi => ?_, hf.ext.sz⟩, fun b hb hq => hf.same b hb hq⟩, ⟨?_, fun i cs hi hcn => ?_, fun g l e => RepA.trunc (hr.2.2 g l e) (numC_lt _ l)⟩, hw, ?_⟩
      · have hi' : i < h.length := by rw [← h0.1]; exact (List.getElem?_eq_some_iff.1 hi).1
        show (G.μ.take h.length)[i]? = some b
        rw [List.getElem?_take_of_lt hi']
        exact hf.ext.mu i b hi
      · show (G.μ.take h.length).length = (hh.take h.length).length
        rw [List.length_take, List.length_take, hr.1]
      · have hil : i < h.length := by
          have := (List.getElem?_eq_some_iff.1 hi).1
          rw [List.length_take] at this; omega
        have hi2 : hh[i]? = some cs := by rw [← hi, List.getElem?_take_of_lt hil]
        obtain ⟨b, arr, T, e1, e2, e3, e4, e5⟩ := hr.2.1 i cs hi2 hcn
        refine ⟨b, arr, T, ?_, e2, e3, e4, e5.trunc (h3 cs (List.mem_of_getElem? hi))⟩
        show (G.μ.take h.length)[i]? = some b
        rw [List.getElem?_take_of_lt hil]; exact e1
      · cases out with
        | ret a => exact RepA.trunc hv h1
        | own m es => obtain ⟨t, hv⟩ := hv; exact ⟨t, hv.trunc (.sl m h1)⟩
        | pan a => exact RepA.trunc hv h1

open Classical in
/-- The blocks that go, told as written no more. -/
noncomputable def gone (G : Gh) (w : World) (n : Nat) : Gh := { S := fun b => if ∃ i, n ≤ i ∧ G.O b = .hb i then szB w b else G.S b, O := G.O, μ := G.μ.take n }

open Classical in
theorem truncR_ok {G0 : Gh} {w0 : World} {h hh h' : Heap} {a : AV} {out' : Out} {v : Value} (h0 : RepHeap G0 w0 h) (hf : Fr d G0 w0 G w) (hr : RepHeap G w hh) (hw : Within G w) (hv : RepA G.S w G.μ a v)
    (ht : truncR H h a hh = some (out', h')) : ∃ b, out' = .ret b ∧ ∃ G', Fr d G0 w0 G' w ∧ RepHeap G' w h' ∧ Within G' w ∧ RepA G'.S w G'.μ b v := by
  unfold truncR at ht
  cases hres : H.res && !(H.hb.isEmpty || H.esc) with
  | false =>
    rw [hres, cond_false] at ht
    obtain ⟨rfl, G', k1, k2, k3, k4⟩ := trunc_ok h0 hf hr hw (out := .ret a) (v := v) hv ht
    exact ⟨a, rfl, G', k1, k2, k3, k4⟩
  | true =>
    rw [hres, cond_true] at ht
    have he : (H.hb.isEmpty || H.esc) = false := by
      rw [Bool.and_eq_true] at hres
      simpa using hres.2
    obtain ⟨ht, h1, h2, h3⟩ := trunc_cases he ht
    cases ht
    have h3 : Heap.lt h.length (hh.take h.length) := by
      rcases h3 with e | e
      · rw [e]; exact h0.bounded
      · exact e
    have hd : ∀ i b cs, h.length ≤ i → G.μ[i]? = some b → hh[i]? = some cs → cs ≠ [] → ∃ arr T, G.O b = .hb i ∧ w.heap[b]? = some (.cells arr T (0, 0)) ∧ G.S b = 0 ∧ RepTail G w (.hc i) cs arr := fun i b cs hi hm hc hcn => by
      obtain ⟨b', arr, T, e1, e2, e3, e4, e5⟩ := hr.2.1 i _ hc hcn
      rw [hm] at e1; cases e1
      exact ⟨arr, T, e2, e3, e4, e5⟩
    have hS : ∀ b, G.S b ≤ (gone G w h.length).S b := fun b => by
      show _ ≤ if _ then _ else _
      split
      · rcases Nat.eq_zero_or_pos (G.S b) with e | e
        · rw [e]; exact Nat.zero_le _
        · obtain ⟨arr, T, fz, h1, h2⟩ := hw b (by omega)
          rw [szB_block h1]; exact h2
      · exact Nat.le_refl _
    have hS1 : ∀ b i, h.length ≤ i → G.O b = .hb i → (gone G w h.length).S b = szB w b := fun b i hi hm => if_pos ⟨i, hi, hm⟩
    have hS2 : ∀ b, (∀ i, h.length ≤ i → G.O b ≠ .hb i) → (gone G w h.length).S b = G.S b := fun b hb => if_neg fun hx => by
      obtain ⟨i, hi, hm⟩ := hx
      exact hb i hi hm
    have ext : Ext G.S w (G.μ.take h.length) (gone G w h.length).S w (G.μ.take h.length) := ⟨hS, fun _ _ _ _ _ h => h, fun _ _ h => h, fun _ => Nat.le_refl _⟩
    refine ⟨_, rfl, gone G w h.length, ⟨hf.os, hf.tape, hf.output, hf.size, ⟨fun b => Nat.le_trans (hf.ext.le b) (hS b), hf.ext.row, fun i b hi => ?_, hf.ext.sz⟩, fun b hb hq => ?_⟩, ⟨?_, fun i cs hi hcn => ?_, fun g l e => RepA.mono ext (RepA.trunc (hr.2.2 g l e) (numC_lt _ l))⟩, fun b hb => ?_, ?_⟩
    · have hi' : i < h.length := by rw [← h0.1]; exact (List.getElem?_eq_some_iff.1 hi).1
      show (G.μ.take h.length)[i]? = some b
      rw [List.getElem?_take_of_lt hi']
      exact hf.ext.mu i b hi
    · obtain ⟨q1, q2, q3⟩ := hf.same b hb hq
      refine ⟨q1, (hS2 b fun i _ e => ?_).trans q2, q3⟩
      rw [← q3, e] at hq; simp [quiet] at hq
    · show (G.μ.take h.length).length = (hh.take h.length).length
      rw [List.length_take, List.length_take, hr.1]
    · have hil : i < h.length := by
        have := (List.getElem?_eq_some_iff.1 hi).1
        rw [List.length_take] at this; omega
      have hi2 : hh[i]? = some cs := by rw [← hi, List.getElem?_take_of_lt hil]
      obtain ⟨b, arr, T, e1, e2, e3, e4, e5⟩ := hr.2.1 i cs hi2 hcn
      refine ⟨b, arr, T, ?_, e2, e3, (hS2 b fun k hk e => ?_).trans e4, e5.1, fun j c hj => ?_⟩
      · show (G.μ.take h.length)[i]? = some b
        rw [List.getElem?_take_of_lt hil]; exact e1
      · rw [e2] at e; cases e; omega
      · obtain ⟨x, hx, hrc, hone⟩ := e5.2 j c hj
        have hrc2 := hrc.trunc (n := h.length) (h3 cs (List.mem_of_getElem? hi) c (List.mem_of_getElem? hj))
        refine ⟨x, hx, ?_, hone⟩
        cases c with
        | v a => exact RepA.mono ext hrc2
        | nil m => exact hrc2
        | own m es =>
          rcases hrc2 with hrc2 | ⟨b2, cap, arr2, T2, f1, f2, f3, f4, f5, f6, f7, f8⟩
          · exact .inl hrc2
          · have f2' : G.O b2 = .hc i j := f2
            exact .inr ⟨b2, cap, arr2, T2, f1, f2, f3, f4, f5, (hS2 b2 fun k hk e => by rw [f2'] at e; cases e).trans f6, RepC.mono ext f7, f8⟩
    · have hb : (if ∃ i, h.length ≤ i ∧ G.O b = .hb i then szB w b else G.S b) ≠ 0 := hb
      show ∃ arr T fz, _ ∧ (if ∃ i, h.length ≤ i ∧ G.O b = .hb i then szB w b else G.S b) ≤ _
      split at hb
      · rename_i hx
        rw [if_pos hx]
        unfold szB at hb ⊢
        split at hb
        · rename_i arr T fz e3
          exact ⟨arr, T, fz, e3, Nat.le_refl _⟩
        · exact absurd rfl hb
      · rename_i hx
        rw [if_neg hx]
        exact hw b hb
    · refine RepA.res hS (fun i b cs hi hm hc hcn => ?_) hv h1
      obtain ⟨arr, T, q2, q3, _, q5⟩ := hd i b cs hi hm hc hcn
      refine ⟨arr, T, (0, 0), q3, ?_, q5.len, q5.gets⟩
      rw [hS1 b i hi q2]; unfold szB; rw [q3]

def rdOne (P : Program) (tmps : Array Value) : ResultVar → Sem Value
  | .tmp t => pure (tmps.getD t undef)
  | .cell a t => do loadVar t (← asAddr (tmps.getD a undef))

theorem loadAt_var {P : Program} {T : TypeId} {ad : Addr} : (Instr.loadAt T (.pointer (some ad))).run P w = (loadVar T ad).run P w := by
  simp [Instr.loadAt, Instr.sureAddr]

theorem rdRes_rep (ok : E.Ok) {tmps : Array Value} (r : RepSt d G w st tmps) {x : ResultVar} {v : AV} (h : rdRes E st x = some v) : ∃ X, (rdOne E.P tmps x).run E.P w = .ok X w ∧ RepA G.S w G.μ v X := by
  cases x with
  | tmp t => exact ⟨_, rfl, (r.slot t).av h⟩
  | cell a T =>
    unfold rdRes at h
    rw [Option.bind_eq_some_iff] at h; obtain ⟨i, hi, h⟩ := h
    rw [Option.bind_eq_some_iff] at h; obtain ⟨p, hp, h⟩ := h
    have hpl := placeOf_rep (a := { tmps := tmps, defers := [] }) (look := st.s) r (fun _ => .inl rfl) hp
    have hrun : ∀ {ad : Addr} {X : Value}, tmps.getD a undef = .pointer (some ad) → (Instr.loadAt T (.pointer (some ad))).run E.P w = .ok X w → (rdOne E.P tmps (.cell a T)).run E.P w = .ok X w := by
      intro ad X h1 h2
      rw [loadAt_var] at h2
      unfold rdOne
      simp only [h1, Sem.run_bind, asAddr, Sem.run_pure, Result.andThen_ok, h2]
    split at h
    · rename_i t off
      split at h
      · rename_i cs hcs
        obtain ⟨⟨b, h1, h2⟩, _⟩ := hpl
        have hrt := r.slot t
        rw [hcs] at hrt
        obtain ⟨b', arr, T', e1, e2, e3, e4, e5⟩ := hrt
        have h2 : tmps.getD t undef = .pointer (some ⟨b, 0, none⟩) := h2
        rw [h2] at e1; cases e1
        have hrow : row? w b 0 arr.size = some arr.toList := by rw [row?_of_block e3 0 arr.size (by omega)]; simp [List.take_of_length_le]
        obtain ⟨X, hX, hrep, _⟩ := load_run ok hi hrow e5.gets h
        rw [Nat.zero_add] at hX
        exact ⟨X, hrun h1 hX, hrep⟩
      · cases h
    · rename_i j off
      unfold hpart at h
      rw [Option.bind_eq_some_iff] at h; obtain ⟨cs, hcs, h⟩ := h
      obtain ⟨hcn, h⟩ := partG_eq h
      obtain ⟨b, arr, T', e0, _, e2, e3, e4, e5⟩ := heap_get (b := 0) r.heap hpl.1 hcs hcn
      have hrow : row? w b 0 cs.length = some (arr.toList.take cs.length) := by have := e5.len; rw [row?_of_block e3 0 cs.length (by omega)]; simp
      obtain ⟨X, hX, hrep, _⟩ := load_run ok hi hrow e5.gets h
      rw [Nat.zero_add] at hX
      exact ⟨X, hrun e0 hX, hrep⟩
    · cases h

theorem rdRess_rep (ok : E.Ok) {tmps : Array Value} (r : RepSt d G w st tmps) : ∀ (l : List ResultVar) (vs : List AV), rdRess E st l = some vs → ∃ Vs, (l.mapM (rdOne E.P tmps)).run E.P w = .ok Vs w ∧ RepL G.S w G.μ vs Vs
  | [], vs, h => by
    have := Option.some.inj h; subst this
    exact ⟨[], by simp, .nil⟩
  | x :: l, vs, h => by
    unfold rdRess at h
    rw [Option.bind_eq_some_iff] at h; obtain ⟨v, hv, h⟩ := h
    rw [Option.bind_eq_some_iff] at h; obtain ⟨m, hm, h⟩ := h
    have := Option.some.inj h; subst this
    obtain ⟨X, h1, h2⟩ := rdRes_rep ok r hv
    obtain ⟨Vs, h3, h4⟩ := rdRess_rep ok r l m hm
    exact ⟨X :: Vs, by simp [List.mapM_cons, h1, h3], .cons h2 h4⟩

def packR : List Value → Value
  | [x] => x
  | l => .tuple l.toArray

theorem mapM_congr' {l : List ResultVar} {f g : ResultVar → Sem Value} (h : ∀ x, f x = g x) : List.mapM f l = List.mapM g l := by rw [funext h]

theorem results_run {fn : Func} {tmps : Array Value} {Vs : List Value} (h : (fn.results.toList.mapM (rdOne E.P tmps)).run E.P w = .ok Vs w) :
    (results fn tmps).run E.P w = .ok (packR Vs) w := by
  unfold results
  rw [Array.mapM_eq_mapM_toList]
  simp only [bind_map_left, Sem.run_bind]
  rw [mapM_congr' (g := rdOne E.P tmps) (fun x => by cases x <;> rfl), h]
  match Vs with
  | [] => rfl
  | [x] => rfl
  | x :: y :: l => rfl

theorem finish_ok (ok : E.Ok) {fn : Func} {h : Heap} {G0 : Gh} {w0 : World} (h0 : RepHeap G0 w0 h) {tmps : Array Value} (r : RepSt d G w st tmps) (hf : Fr d G0 w0 G w) {out : Out} {h' : Heap} (hfin : finish E H fn h st = some (out, h')) :
    ∃ v, (results fn tmps).run E.P w = .ok v w ∧ (∃ G', Fr d G0 w0 G' w ∧ RepHeap G' w h' ∧ Within G' w ∧ EndVal d G' w out v) ∧ (∀ a, out ≠ .pan a) := by
  unfold finish at hfin
  split at hfin
  · rename_i x hx
    cases hown : H.own with
    | true =>
      rw [hown] at hfin
      simp only [cond_true] at hfin
      split at hfin
      · rename_i t
        have hrun : (fn.results.toList.mapM (rdOne E.P tmps)).run E.P w = .ok [tmps.getD t undef] w := by rw [hx]; simp [rdOne]
        refine ⟨_, results_run hrun, ?_⟩
        have hr := r.slot t
        split at hfin
        · rename_i n es hs
          rw [hs] at hr
          obtain ⟨rfl, k⟩ := trunc_ok h0 hf r.heap r.within (out := .own n es) (v := tmps.getD t undef) ⟨t, hr⟩ hfin
          exact ⟨k, fun _ e => by cases e⟩
        · rename_i n hs
          rw [hs] at hr
          obtain ⟨rfl, k⟩ := trunc_ok h0 hf r.heap r.within (out := .own n []) (v := tmps.getD t undef) ⟨t, .inl ⟨hr, rfl⟩⟩ hfin
          exact ⟨k, fun _ e => by cases e⟩
        · cases hfin
      · cases hfin
    | false =>
      rw [hown] at hfin
      simp only [cond_false] at hfin
      rw [Option.bind_eq_some_iff] at hfin; obtain ⟨v, hv, hfin⟩ := hfin
      obtain ⟨X, h1, h2⟩ := rdRes_rep ok r hv
      have hrun : (fn.results.toList.mapM (rdOne E.P tmps)).run E.P w = .ok [X] w := by rw [hx]; simp [h1]
      obtain ⟨b, rfl, k⟩ := truncR_ok h0 hf r.heap r.within (v := X) h2 hfin
      exact ⟨_, results_run hrun, k, fun _ e => by cases e⟩
  · rename_i hne
    rw [Option.bind_eq_some_iff] at hfin; obtain ⟨vs, hvs, hfin⟩ := hfin
    obtain ⟨Vs, h1, h2⟩ := rdRess_rep ok r _ _ hvs
    have hlen : Vs.length = fn.results.toList.length := by
      have a1 := h2.length
      have a2 : ∀ (l : List ResultVar) (vs : List AV), rdRess E st l = some vs → vs.length = l.length := by
        intro l
        induction l with
        | nil => intro vs h; have := Option.some.inj h; subst this; rfl
        | cons x l ih =>
          intro vs h
          unfold rdRess at h
          rw [Option.bind_eq_some_iff] at h; obtain ⟨v, hv, h⟩ := h
          rw [Option.bind_eq_some_iff] at h; obtain ⟨m, hm, h⟩ := h
          have := Option.some.inj h; subst this
          simp [ih m hm]
      rw [← a1, a2 _ _ hvs]
    have hres := results_run h1
    have hm : packR Vs = Value.tuple Vs.toArray := by
      clear hres h1 h2 hfin
      match Vs, hlen with
      | [], _ => rfl
      | [x], hl =>
        exfalso
        match hq : fn.results.toList, hl with
        | [y], _ => exact hne y hq
      | x :: y :: l, _ => rfl
    rw [hm] at hres
    obtain ⟨b, rfl, k⟩ := truncR_ok h0 hf r.heap r.within (v := .tuple Vs.toArray) (.tup h2) hfin
    exact ⟨_, hres, k, fun _ e => by cases e⟩

theorem argSlots_spec {tmps : Array Value} : ∀ (args : List AV) (k : Nat) (L : List Value), RepL G.S w G.μ args L → (∀ (j : Nat) x, L[j]? = some x → tmps.getD (k + j) undef = x) → ∀ p ∈ argSlots k args, RepSlot G w d p.1 p.2 (tmps.getD p.1 undef)
  | [], _, _, _, _, p, hp => by cases hp
  | a :: r, k, L, hL, hg, p, hp => by
    cases hL with
    | cons h t =>
      rcases List.mem_cons.1 hp with e | e
      · subst e
        show RepA _ _ _ _ _
        rw [show tmps.getD k undef = _ from hg 0 _ rfl]; exact h
      · exact argSlots_spec r (k + 1) _ t (fun j x hj => by have := hg (j + 1) x (by simpa using hj); rwa [show k + (j + 1) = k + 1 + j from by omega] at this) p e

/-- Prims keep their word. -/
def PrimsOk (E : Env) : Prop := ∀ f p, E.prim f = some p → ∀ call, SoundC E.P call → ∀ args h out h', p call args h = some (out, h') → Ends E.P f args h out h'

/-- THE LAW. -/
theorem ev_ok (ok : E.Ok) (hp : PrimsOk E) : ∀ k, SoundC E.P (ev E k)
  | 0 => fun f args h out h' he => by cases he
  | k + 1 => fun f args h out h' he => by
    have ih := ev_ok ok hp k
    unfold ev at he
    split at he
    · rename_i p hpf
      exact hp f p hpf _ ih _ _ _ _ he
    · rename_i hpf
      split at he
      · cases he
      · rename_i fn hfn
        split at he
        · cases he
        · rename_i c hbody
          obtain ⟨hle, he⟩ := condE he
          have hle := bleE hle
          obtain ⟨fn', g1, g2, g3⟩ := ok.ent f (.inl (by rw [hfn]; rfl))
          refine ⟨⟨fn', g1, g2, g3⟩, fun d G w argv hargs hh hw => ?_⟩
          have hcode := ok.code f fn hfn
          refine calls_of_wp hcode hbody ?_
          have hal : args.length = argv.size := by have := hargs.length; simpa using this
          have hr : RepSt d G w { s := lkS (argSlots 0 args), h := h } (argv ++ Array.replicate (fn.ntmps - argv.size) undef) := by
            refine ⟨fun i => ?_, fun u t off hu => ?_, hh, hw⟩
            · rcases lkS_spec (argSlots 0 args) i with e | e
              · show RepSlot _ _ _ _ (lkS _ _) _
                rw [e]; trivial
              · refine argSlots_spec args 0 argv.toList hargs (fun j x hj => ?_) _ e
                have hj' : j < argv.size := by simpa using (List.getElem?_eq_some_iff.1 hj).1
                rw [Nat.zero_add, Array.getD_eq_getD_getElem?, Array.getElem?_append_left hj', ← Array.getElem?_toList, hj]; rfl
            · exfalso
              have hu : lkS (argSlots 0 args) u = .path t off := hu
              rcases lkS_spec (argSlots 0 args) u with e | e
              · rw [e] at hu; cases hu
              · rw [hu] at e
                have : ∀ (l : List AV) (k : Nat), ∀ p ∈ argSlots k l, ∃ x, p.2 = .c (.v x) := by
                  intro l
                  induction l with
                  | nil => intro k p hp; cases hp
                  | cons x l ih =>
                    intro k p hp
                    rcases List.mem_cons.1 hp with e | e
                    · exact ⟨x, by rw [e]⟩
                    · exact ih _ p e
                obtain ⟨x, hx⟩ := this _ _ _ e
                cases hx
          refine Code.wp_mono (fun e a' w' hq => ?_) ((wpIn_wide (n := 0)).1 (evC_ok (ro := none) (nn := 0) ok ih c 0 _ _ _ _ he ⟨G, hr, by simp; omega, Fr.refl d G w⟩ rfl))
          obtain ⟨hd, hq⟩ := hq
          have fin : ∀ {st' : St} {G' : Gh}, finish E (E.hint f) fn h st' = some (out, h') → RepSt d G' w' st' a'.tmps → Fr d G w G' w' → a'.defers = [] ∧ ∃ v, (results fn a'.tmps).run E.P w' = .ok v w' ∧ EndOk d G w out h' (.returned v) w' := by
            intro st' G' h1 h2 h3
            obtain ⟨v, k1, ⟨G2, k2, k3, k4, k5⟩, k6⟩ := finish_ok ok hh h2 h3 h1
            refine ⟨hd, v, k1, G2, k2, k3, k4, ?_⟩
            cases out with
            | ret a => exact k5
            | own n es => exact k5
            | pan a => exact absurd rfl (k6 a)
          cases e with
          | normal => obtain ⟨st', G', h1, h2, h3, h4⟩ := hq; exact fin h1 h2 h4
          | ret => obtain ⟨st', G', h1, h2, h3, h4⟩ := hq; exact fin h1 h2 h4
          | exit i => obtain ⟨st', G', h1, h2, h3, h4⟩ := hq; cases h1
          | panic ch =>
            obtain ⟨x, v, G', h1, rfl, h2, h3, h4, h5, h6⟩ := hq
            refine ⟨hd, ?_⟩
            obtain ⟨e1, G2, k2, k3, k4, k5⟩ := trunc_ok hh h6 h4 h5 (out := .pan x) (v := v) h3 h2
            subst e1
            exact ⟨G2, k2, k3, k4, v, rfl, k5⟩
          | goto l => exact hq.elim
          | outgrown => exact hq.elim

end
end Go.Sh

/- What comes in from outside: readings of memory, told as plain values; and a call from outside. -/
namespace Go.Sh
open Go Go.RowKit
set_option linter.unusedVariables false
set_option linter.unusedSimpArgs false

/-- All memory that is there, as sealed. -/
def sealAll (W : World) : Gh := { S := fun b => match W.heap[b]? with | some (.cells arr _ _) => arr.size | _ => 0, O := fun _ => .none, μ := [] }

theorem within_all (W : World) : Within (sealAll W) W := by
  intro b hb
  unfold sealAll at hb ⊢
  simp only at hb ⊢
  split at hb
  · rename_i arr T fz h; exact ⟨arr, T, fz, h, by simp [h]⟩
  · exact absurd rfl hb

theorem heap_all (W : World) (hg : GlobsOk (sealAll W) W) : RepHeap (sealAll W) W [] := ⟨rfl, fun i cs h => by simp at h, hg⟩
theorem GlobsOk.none (h : ∀ g, globs g = Option.none) (G : Gh) (w : World) : GlobsOk G w := fun g l e => by rw [h g] at e; cases e

section
variable {E : Env}

/-- A CALL FROM OUTSIDE. -/
theorem calls_true (ok : E.Ok) (hp : PrimsOk E) {f : Nat} {args : List AV} {argv : Array Value} {W : World} (hg : GlobsOk (sealAll W) W) (hr : RepL (sealAll W).S W [] args argv.toList) {k : Nat} {h' : Heap}
    (he : ev E k f args [] = some (.ret (.lit (.bool true)), h')) : Calls E.P f argv W (fun e W' => e = .returned (.bool true) ∧ Below W.heap.size W W') := by
  obtain ⟨_, hends⟩ := ev_ok ok hp k f args [] _ _ he
  refine (hends 0 (sealAll W) W argv hr (heap_all W hg) (within_all W)).mono fun e W' hq => ?_
  obtain ⟨G', hf, _, _, hm⟩ := hq
  cases e with
  | returned v =>
    refine ⟨by rw [show v = .bool true from hm.litE], hf.os, hf.tape, hf.output, hf.size, fun b hb => (hf.same b hb rfl).1⟩
  | panicked c => exact hm.elim
  | outgrown => exact hm.elim

/- how much there is -/
mutual
def vol : AV → Nat
  | .lit (.string s) => s.size + 1
  | .sl _ es => volE es + 1
  | _ => 1
def volC : List AV → Nat
  | [] => 0
  | a :: r => vol a + volC r
def volE : List (List AV) → Nat
  | [] => 0
  | x :: r => volC x + volE r
end
theorem volC_append : ∀ (l m : List AV), volC (l ++ m) = volC l + volC m
  | [], m => by rw [List.nil_append, volC, Nat.zero_add]
  | a :: l, m => by rw [List.cons_append, volC, volC, volC_append l m, Nat.add_assoc]
theorem volC_flatten : ∀ l : List (List AV), volC l.flatten = volE l
  | [] => by rw [List.flatten_nil, volC, volE]
  | x :: l => by rw [List.flatten_cons, volC_append, volE, volC_flatten l]
mutual
def dsz {H : Type} : DataW H → Nat
  | .lit (.string bytes) => bytes.length + 1
  | .slice elems _ => dszL elems + 1
  | .agg parts => dszL parts
  | _ => 1
def dszL {H : Type} : List (DataW H) → Nat
  | [] => 0
  | d :: r => dsz d + dszL r
end

/- typed values -/
mutual
inductive TypedC (E : Env) : TypeId → List AV → Prop
  | bool {t : TypeId} {i : TI} (h : E.ty t = some i) (hd : i.desc = .bool) (b : Bool) : TypedC E t [.lit (.bool b)]
  | int {t : TypeId} {i : TI} {k : IntKind} (h : E.ty t = some i) (hd : i.desc = .int k) {n : Int} (hw : (Lit.int k n).wf = true) : TypedC E t [.lit (.int k n)]
  | str {t : TypeId} {i : TI} (h : E.ty t = some i) (hd : i.desc = .string) {s : ByteArray} (hs : s.size ≤ maxLen) : TypedC E t [.lit (.string s)]
  | sl {t e : TypeId} {i j : TI} (h : E.ty t = some i) (hd : i.desc = .slice e) (hj : E.ty e = some j) {es : List (List AV)} (hl : es.length ≤ maxLen) (hes : TypedE E e es) : TypedC E t [.sl j.size es]
  | struct {t : TypeId} {i : TI} {fs : Array Field} (h : E.ty t = some i) (hd : i.desc = .struct fs) {ass : List (List AV)} (hf : TypedF E fs.toList ass) : TypedC E t ass.flatten
inductive TypedE (E : Env) : TypeId → List (List AV) → Prop
  | nil {t : TypeId} : TypedE E t []
  | cons {t : TypeId} {x : List AV} {r : List (List AV)} (h : TypedC E t x) (hr : TypedE E t r) : TypedE E t (x :: r)
inductive TypedF (E : Env) : List Field → List (List AV) → Prop
  | nil : TypedF E [] []
  | cons {f : Field} {r : List Field} {x : List AV} {l : List (List AV)} (h : TypedC E f.type x) (hr : TypedF E r l) : TypedF E (f :: r) (x :: l)
end

def contig (E : Env) (ts : List Nat) : Nat → List Field → Nat → Bool
  | off, [], n => Nat.beq off n
  | off, f :: r, n => Nat.beq f.offset off && memN ts f.type && (match E.ty f.type with | some j => contig E ts (off + j.size) r n | none => false)

/-- The table's types of one cell, of slices, of structs with their fields side by side; what they are made of is among them. -/
def flatB (E : Env) (ts : List Nat) (i : TI) : Bool :=
  match i.desc with
  | .struct fs => contig E ts 0 fs.toList i.size
  | .slice e => memN ts e && (match E.ty e with | some j => Nat.ble 1 j.size && Nat.beq i.size 1 | none => false)
  | .bool | .int _ | .string => Nat.beq i.size 1
  | _ => false

def flatAll (E : Env) (ts : List Nat) : Bool := ts.all fun t => match E.ty t with | some i => flatB E ts i | none => false

theorem flat_mem {ts : List Nat} (h : flatAll E ts = true) {t : Nat} (ht : memN ts t = true) : ∃ i, E.ty t = some i ∧ flatB E ts i = true := by
  have := List.all_eq_true.1 h t (memN_iff.1 ht)
  cases e : E.ty t with
  | none => rw [e] at this; cases this
  | some i => rw [e] at this; exact ⟨i, rfl, this⟩

theorem mapM_some {α β : Type} {f : α → Option β} : ∀ {l : List α} {r : List β}, l.mapM f = some r → r.length = l.length ∧ ∀ (i : Nat) x, l[i]? = some x → ∃ y, r[i]? = some y ∧ f x = some y
  | [], r, h => by
    simp at h; subst h; exact ⟨rfl, fun i x hx => by simp at hx⟩
  | a :: l, r, h => by
    simp only [List.mapM_cons, Option.bind_eq_bind, Option.pure_def, Option.bind_eq_some_iff, Option.some.injEq] at h
    obtain ⟨y, hy, r', hr', rfl⟩ := h
    obtain ⟨h1, h2⟩ := mapM_some hr'
    refine ⟨by simp [h1], fun i x hx => ?_⟩
    cases i with
    | zero => simp at hx; subst hx; exact ⟨y, rfl, hy⟩
    | succ i => simp at hx; simpa using h2 i x hx

theorem cells?_spec {W : World} {a : Addr} {n : Nat} {vals : List Value} (hn : 1 ≤ n) (h : W.cells? 0 a n = some vals) :
    ∃ arr T fz, a.spot = none ∧ W.heap[a.block]? = some (.cells arr T fz) ∧ a.off + n ≤ arr.size ∧ vals = (arr.toList.drop a.off).take n := by
  unfold World.cells? at h
  rw [if_pos (Nat.zero_le _)] at h
  obtain ⟨h1, h2⟩ := mapM_some h
  rw [List.length_range] at h1
  have hcell : ∀ i, i < n → ∃ y, vals[i]? = some y ∧ W.cell? (a.add i) = some y := fun i hi => h2 i i (by rw [List.getElem?_range hi])
  obtain ⟨b, o, sp⟩ := a
  have hsp : sp = none := by
    obtain ⟨y, _, hc⟩ := hcell 0 (by omega)
    unfold Addr.add World.cell? at hc
    simp only [if_true] at hc
    split at hc
    · split at hc
      · cases hc
      · rename_i hs; simpa using hs
    · cases hc
  subst hsp
  have hcell' : ∀ i, i < n → ∃ y arr T fz, vals[i]? = some y ∧ W.heap[b]? = some (.cells arr T fz) ∧ arr[o + i]? = some y := by
    intro i hi
    obtain ⟨y, hy, hc⟩ := hcell i hi
    rw [Addr.add_lit] at hc
    unfold World.cell? at hc
    simp only at hc
    split at hc
    · rename_i arr T fz hh
      exact ⟨y, arr, T, fz, hy, hh, by simpa using hc⟩
    · cases hc
  obtain ⟨y0, arr, T, fz, _, hh, _⟩ := hcell' 0 (by omega)
  have hall : ∀ i, i < n → ∃ y, vals[i]? = some y ∧ arr[o + i]? = some y := by
    intro i hi
    obtain ⟨y, arr', T', fz', hy, hh', hg⟩ := hcell' i hi
    rw [hh] at hh'; cases hh'
    exact ⟨y, hy, hg⟩
  have hle : o + n ≤ arr.size := by
    obtain ⟨y, _, hg⟩ := hall (n - 1) (by omega)
    have := (Array.getElem?_eq_some_iff.1 hg).1
    omega
  refine ⟨arr, T, fz, rfl, hh, hle, List.ext_getElem? fun i => ?_⟩
  by_cases hi : i < n
  · obtain ⟨y, hy, hg⟩ := hall i hi
    rw [hy, List.getElem?_take_of_lt hi, List.getElem?_drop]
    simpa using hg.symm
  · rw [List.getElem?_eq_none (by omega), List.getElem?_eq_none (by simp; omega)]

theorem cellsOf_eq (ok : E.Ok) {t : TypeId} {i : TI} (hi : E.ty t = some i) : E.P.cellsOf t = i.size := by
  obtain ⟨ti, z, h1, h2, _⟩ := (ok.ty t i hi).info
  simp [Program.cellsOf, h1, h2]

theorem repC_append {S : Nat → Nat} {W : World} {μ : List Nat} : ∀ {l l' : List AV} {m m' : List Value}, RepC S W μ l m → RepC S W μ l' m' → RepC S W μ (l ++ l') (m ++ m') := fun h h' => h.append h'

theorem open_fields {ts : List Nat} {W : World} {cs : List Value} {n : Nat} (hn : cs.length = n) {H : Type} :
    ∀ (fs : List Field) (ds : List (DataW H)) (off : Nat), contig E ts off fs n = true → off ≤ n → (∀ (q : Nat) f, fs[q]? = some f → ∀ j, E.ty f.type = some j → memN ts f.type = true → ∃ d, ds[q]? = some d ∧ ∃ as, RepC (sealAll W).S W [] as ((cs.drop f.offset).take j.size) ∧ TypedC E f.type as ∧ ((cs.drop f.offset).take j.size).length = j.size ∧ volC as ≤ dsz d) →
    ∃ ass, TypedF E fs ass ∧ RepC (sealAll W).S W [] ass.flatten (cs.drop off) ∧ volE ass ≤ dszL ds
  | [], ds, off, h, hle, _ => by
    have h := beqE h
    refine ⟨[], .nil, ?_, by rw [volE]; exact Nat.zero_le _⟩
    rw [List.drop_of_length_le (by omega)]; exact .nil
  | f :: r, ds, off, h, hle, hf => by
    unfold contig at h
    simp only [Bool.and_eq_true] at h
    obtain ⟨⟨h1, h2⟩, h3⟩ := h
    have h1 := beqE h1
    cases hj : E.ty f.type with
    | none => rw [hj] at h3; cases h3
    | some j =>
      rw [hj] at h3
      simp only at h3
      obtain ⟨d, hd, as, k1, k2, k3, k4⟩ := hf 0 f rfl j hj h2
      cases ds with
      | nil => simp at hd
      | cons d' ds =>
      have hd : d' = d := by simpa using hd
      subst hd
      rw [h1] at k1 k3
      have hle2 : off + j.size ≤ n := by
        rw [List.length_take, List.length_drop] at k3; omega
      obtain ⟨ass, m1, m2, m3⟩ := open_fields hn r ds (off + j.size) h3 hle2 (fun q g hg => by
        have := hf (q + 1) g (by simpa using hg)
        simpa using this)
      refine ⟨as :: ass, .cons k2 m1, ?_, by rw [volE, dszL]; omega⟩
      rw [List.flatten_cons]
      have : cs.drop off = (cs.drop off).take j.size ++ cs.drop (off + j.size) := by
        rw [← List.drop_drop, List.take_append_drop]
      rw [this]
      exact k1.append m2

theorem row_join {arr : Array Value} (n : Nat) : ∀ (len off : Nat), off + len * n ≤ arr.size → (arr.toList.drop off).take (len * n) = ((List.range len).map fun i => (arr.toList.drop (off + i * n)).take n).flatten
  | 0, off, h => by simp
  | len + 1, off, h => by
    have e : (len + 1) * n = n + len * n := by rw [Nat.succ_mul]; omega
    rw [e, List.take_add, List.range_succ_eq_map, List.map_cons, List.flatten_cons, Nat.zero_mul, Nat.add_zero, List.drop_drop, row_join n len (off + n) (by omega), List.map_map]
    congr 2
    refine List.map_congr_left fun i _ => ?_
    simp only [Function.comp]
    congr 2
    rw [Nat.succ_mul]; omega

theorem open_trod {H : Type} {enc : TypeId × Value → H} (ok : E.Ok) {ts : List Nat} (hts : flatAll E ts = true) {W : World} : ∀ (fuel : Nat) (t : TypeId) (cs : List Value) (d : DataW H) (ps : List MemPlace) (i : TI), DataW.trod enc E.P W 0 (fun _ => true) true fuel t cs = some (d, ps) → E.ty t = some i → memN ts t = true →
    ∃ as, RepC (sealAll W).S W [] as cs ∧ TypedC E t as ∧ cs.length = i.size ∧ volC as ≤ dsz d
  | 0, t, cs, d, ps, i, h, _, _ => by cases h
  | fuel + 1, t, cs, d, ps, i, h, hi, hmem => by
    obtain ⟨i', hi', hfb⟩ := flat_mem hts hmem
    rw [hi] at hi'; cases hi'
    have ht := ok.ty t i hi
    unfold DataW.trod at h
    rw [ht.und] at h
    unfold flatB at hfb
    cases hd : i.desc with
    | bool =>
      rw [hd] at h hfb
      have hsz := beqE hfb
      rcases cs with _ | ⟨v, _ | ⟨v2, cs2⟩⟩
      · simp at h
      · cases v <;> try (simp at h; done)
        simp only [Option.some.injEq, Prod.mk.injEq] at h; obtain ⟨rfl, _⟩ := h
        exact ⟨_, .cons (.lit rfl) rfl .nil, .bool hi hd _, by rw [hsz]; rfl, by simp [volC, vol, dsz]⟩
      · simp at h
    | int k =>
      rw [hd] at h hfb
      have hsz := beqE hfb
      rcases cs with _ | ⟨v, _ | ⟨v2, cs2⟩⟩
      · simp at h
      · cases v <;> try (simp at h; done)
        simp only at h
        split at h
        · rename_i hc
          obtain ⟨rfl, hw⟩ := hc
          simp only [Option.some.injEq, Prod.mk.injEq] at h; obtain ⟨rfl, _⟩ := h
          exact ⟨_, .cons (.lit rfl) rfl .nil, .int hi hd hw, by rw [hsz]; rfl, by simp [volC, vol, dsz]⟩
        · cases h
      · simp at h
    | string =>
      rw [hd] at h hfb
      have hsz := beqE hfb
      rcases cs with _ | ⟨v, _ | ⟨v2, cs2⟩⟩
      · simp at h
      · cases v <;> try (simp at h; done)
        simp only at h
        split at h
        · rename_i hc
          simp only [Option.some.injEq, Prod.mk.injEq] at h; obtain ⟨rfl, _⟩ := h
          exact ⟨_, .cons (.lit rfl) rfl .nil, .str hi hd hc, by rw [hsz]; rfl, by simp only [volC, vol, dsz]; rw [Array.length_toList]; exact Nat.le_refl _⟩
        · cases h
      · simp at h
    | slice e =>
      rw [hd] at h hfb
      simp only [Bool.and_eq_true] at hfb
      obtain ⟨hme, hfb⟩ := hfb
      cases hj : E.ty e with
      | none => rw [hj] at hfb; cases hfb
      | some j =>
      rw [hj] at hfb
      simp only [Bool.and_eq_true] at hfb
      have hj1 := bleE hfb.1
      have hsz := beqE hfb.2
      rcases cs with _ | ⟨v, _ | ⟨v2, cs2⟩⟩
      · simp at h
      rotate_left
      · simp at h
      cases v <;> try (simp at h; done)
      rename_i base len cap
      cases base with
      | none =>
        cases len with
        | succ n => simp at h
        | zero =>
          cases cap with
          | succ n => simp at h
          | zero =>
            simp only [Option.some.injEq, Prod.mk.injEq] at h; obtain ⟨rfl, _⟩ := h
            exact ⟨_, .cons (.slN j.size) rfl .nil, .sl hi hd hj (Nat.zero_le _) .nil, by rw [hsz]; rfl, by simp [volC, vol, volE, dsz]⟩
      | some a =>
        simp only [cellsOf_eq ok hj] at h
        split at h
        · rename_i hcond
          obtain ⟨_, hlc, hcm⟩ := hcond
          rw [Option.bind_eq_some_iff] at h; obtain ⟨elems, hel, h⟩ := h
          obtain ⟨rest, hrest, hdq⟩ := Option.map_eq_some_iff.1 h
          simp only [Prod.mk.injEq] at hdq; obtain ⟨rfl, _⟩ := hdq
          simp only [if_true] at hrest
          obtain ⟨l1, l2⟩ := mapM_some hel
          obtain ⟨r1, r2⟩ := mapM_some hrest
          by_cases hcap : cap = 0
          · subst hcap
            have : len = 0 := by omega
            subst this
            exact ⟨_, .cons (.slE j.size a) rfl .nil, .sl hi hd hj (Nat.zero_le _) .nil, by rw [hsz]; rfl, by simp [volC, vol, volE, dsz]⟩
          · -- the first one tells where it lies
            obtain ⟨vals0, hv0⟩ : ∃ vals0, W.cells? 0 (a.add (0 * j.size)) j.size = some vals0 := by
              by_cases hl0 : len = 0
              · subst hl0
                obtain ⟨y, _, hy⟩ := r2 0 0 (by rw [List.getElem?_range (by omega)])
                rw [Option.bind_eq_some_iff] at hy
                obtain ⟨vals0, hv0, _⟩ := hy
                exact ⟨vals0, by simpa using hv0⟩
              · obtain ⟨y, _, hy⟩ := l2 0 0 (by rw [List.getElem?_range (by omega)])
                rw [Option.bind_eq_some_iff] at hy
                obtain ⟨vals0, hv0, _⟩ := hy
                exact ⟨vals0, hv0⟩
            rw [Nat.zero_mul, show a.add 0 = a from by simp [Addr.add]] at hv0
            obtain ⟨arr, T, fz, hsp, hh, hle0, _⟩ := cells?_spec hj1 hv0
            obtain ⟨b, o, sp⟩ := a
            simp only at hsp hh hle0
            subst hsp
            have hbs : (sealAll W).S b = arr.size := by simp [sealAll, hh]
            have hone : ∀ k, k < len → ∃ d, (elems.map (·.1))[k]? = some d ∧ ∃ as, volC as ≤ dsz d ∧ RepC (sealAll W).S W [] as ((arr.toList.drop (o + k * j.size)).take j.size) ∧ TypedC E e as ∧ as.length = j.size ∧ o + k * j.size + j.size ≤ arr.size := by
              intro k hk
              obtain ⟨y, hyk, hy⟩ := l2 k k (by rw [List.getElem?_range hk])
              rw [Option.bind_eq_some_iff] at hy
              obtain ⟨vals, hv, hy⟩ := hy
              rw [Addr.add_lit] at hv
              obtain ⟨arr', T', fz', _, hh', hle', hvals⟩ := cells?_spec hj1 hv
              simp only at hh' hle' hvals
              rw [hh] at hh'; cases hh'
              obtain ⟨as, k1, k2, k3, k4⟩ := open_trod ok hts fuel e vals y.1 y.2 j hy hj hme
              rw [hvals] at k1 k3
              exact ⟨y.1, by rw [List.getElem?_map, hyk]; rfl, as, k4, k1, k2, by rw [k1.length, k3], hle'⟩
            have hall : ∀ m, m ≤ len → ∃ es, volE es ≤ dszL ((elems.map (·.1)).drop (len - m)) ∧ es.length = m ∧ TypedE E e es ∧ (∀ x ∈ es, x.length = j.size) ∧ RepC (sealAll W).S W [] es.flatten (((List.range' (len - m) m).map fun k => (arr.toList.drop (o + k * j.size)).take j.size).flatten) := by
              intro m
              induction m with
              | zero => intro _; exact ⟨[], by rw [volE]; exact Nat.zero_le _, rfl, .nil, by simp, .nil⟩
              | succ m ih =>
                intro hm
                obtain ⟨es, q0, q1, q2, q3, q4⟩ := ih (by omega)
                obtain ⟨dd, hdd, as, k0, k1, k2, k3, _⟩ := hone (len - (m + 1)) (by omega)
                refine ⟨as :: es, by
                  obtain ⟨hlt, hge⟩ := List.getElem?_eq_some_iff.1 hdd
                  rw [List.drop_eq_getElem_cons hlt, hge, volE, dszL, show len - (m + 1) + 1 = len - m from by omega]; omega, by simp [q1], .cons k2 q2, fun x hx => ?_, ?_⟩
                · rcases List.mem_cons.1 hx with e1 | e1
                  · rw [e1]; exact k3
                  · exact q3 x e1
                · rw [List.range'_succ, List.map_cons, List.flatten_cons, List.flatten_cons]
                  rw [show len - (m + 1) + 1 = len - m from by omega]
                  exact k1.append q4
            obtain ⟨es, q0, q1, q2, q3, q4⟩ := hall len (Nat.le_refl _)
            rw [Nat.sub_self] at q4 q0
            rw [List.drop_zero] at q0
            have htot : o + len * j.size ≤ arr.size := by
              by_cases hl0 : len = 0
              · subst hl0; omega
              · obtain ⟨_, _, _, _, _, _, _, hle'⟩ := hone (len - 1) (by omega)
                have : len * j.size = (len - 1) * j.size + j.size := by
                  rw [← Nat.succ_mul]; congr 1; omega
                omega
            have hjoin : (arr.toList.drop o).take (len * j.size) = ((List.range' 0 len).map fun k => (arr.toList.drop (o + k * j.size)).take j.size).flatten := by
              rw [row_join j.size len o htot, List.range_eq_range']
            have hfl := flatten_len q3
            refine ⟨[.sl j.size es], .cons ?_ rfl .nil, .sl hi hd hj (by omega) q2, by rw [hsz]; rfl, by simp only [volC, vol, dsz]; omega⟩
            rw [← q1]
            refine .sl (vals := (arr.toList.drop o).take (len * j.size)) (by omega) ?_ (by rw [hjoin]; exact q4) (by rw [hbs, hfl, q1]; exact htot) q3
            rw [hfl, q1]
            exact row?_of_block hh o _ htot
        · cases h
    | struct fs =>
      rw [hd] at h hfb
      simp only at h hfb
      rw [cellsOf_eq ok hi] at h
      split at h
      · rename_i hcs
        obtain ⟨xs, hxs, hdq⟩ := Option.map_eq_some_iff.1 h
        simp only [Prod.mk.injEq] at hdq; obtain ⟨rfl, _⟩ := hdq
        obtain ⟨m1, m2⟩ := mapM_some hxs
        obtain ⟨ass, k1, k2, k5⟩ := open_fields hcs fs.toList (xs.map (·.1)) 0 hfb (Nat.zero_le _) (fun q f hq j hj hmf => by
          obtain ⟨y, hyq, hy⟩ := m2 q f hq
          rw [cellsOf_eq ok hj] at hy
          obtain ⟨as, n1, n2, n3, n4⟩ := open_trod ok hts fuel f.type _ y.1 y.2 j hy hj hmf
          exact ⟨y.1, by rw [List.getElem?_map, hyq]; rfl, as, n1, n2, n3, n4⟩)
        exact ⟨ass.flatten, by simpa using k2, .struct hi hd k1, hcs, by rw [volC_flatten, dsz]; exact k5⟩
      · cases h
    | _ => rw [hd] at hfb; cases hfb

end
end Go.Sh

/- The limit: calls with no count of steps. -/
namespace Go.Sh
open Go
set_option linter.unusedVariables false
set_option linter.unusedSimpArgs false

/-- Whatever the first yields, the second yields. -/
def Le (c c' : Nat → List AV → Heap → R) : Prop := ∀ f args h r, c f args h = some r → c' f args h = some r

section
variable {E : Env} {H : FHint} {call call' : Nat → List AV → Heap → R} {nt n n' : Nat} {ops : Array Oper}

theorem onOut_mono {ρ : Type} {r r' : R} {k1 : AV → Heap → Option ρ} {k2 : Nat → List (List AV) → Heap → Option ρ} {k3 : AV → Heap → Option ρ} {x : ρ} (h : ∀ y, r = some y → r' = some y) (hx : onOut r k1 k2 k3 = some x) : onOut r' k1 k2 k3 = some x := by
  unfold onOut at hx ⊢
  rw [Option.bind_eq_some_iff] at hx
  obtain ⟨y, hy, hx⟩ := hx
  rw [h y hy]; exact hx

theorem apply_mono (hc : Le call call') {fv : AV} {args : List AV} {h : Heap} : ∀ y, applyV call fv args h = some y → applyV call' fv args h = some y := by
  intro y hy
  unfold applyV at hy ⊢
  split at hy
  · exact hc _ _ _ _ hy
  · cases hy

theorem core_mono {ρ : Type} (hc : Le call call') {o : Oper} {look : Nat → Slot} {h : Heap} {K : List (Nat × Slot) → Heap → Option ρ} {Kp : AV → Heap → Option ρ} {x : ρ} (hx : core E H call o look h K Kp = some x) : core E H call' o look h K Kp = some x := by
  unfold core at hx ⊢
  cases hop : o.op <;> rw [hop] at hx
  case call c =>
    cases hcal : c.callee with
    | value f =>
      simp only [hcal] at hx ⊢
      rw [Option.bind_eq_some_iff] at hx; obtain ⟨fv, hfv, hx⟩ := hx
      rw [Option.bind_eq_some_iff] at hx; obtain ⟨args, hargs, hx⟩ := hx
      rw [hfv, Option.bind_some, hargs, Option.bind_some]
      cases hp : dstIn H.pure o.dst with
      | true => rw [hp] at hx; simp only [cond_true] at hx ⊢; exact onOut_mono (apply_mono hc) hx
      | false => rw [hp] at hx; simp only [cond_false] at hx ⊢; exact onOut_mono (apply_mono hc) hx
    | _ => (simp only [hcal] at hx ⊢; exact hx)
  case makeFunc f first caps => cases f <;> exact hx
  case slice T x lo hi mx => cases mx <;> exact hx
  all_goals exact hx

theorem run_mono {ρ : Type} (hc : Le call call') {i : Nat} {o : Oper} {st : St} {K : St → Option ρ} {Kp : AV → Heap → Option ρ} {x : ρ} (hx : runK E H nt call ops i o st K Kp = some x) : runK E H nt call' ops i o st K Kp = some x := core_mono hc hx

theorem step_mono (hc : Le call call') {i : Nat} {o : Oper} {st : St} {x : SR} (hx : stepD E H nt call ops i o st = some x) : stepD E H nt call' ops i o st = some x := by
  unfold stepD stepK at hx ⊢
  cases hg : o.guard with
  | none => rw [hg] at hx; exact run_mono hc hx
  | some q =>
    obtain ⟨j, want⟩ := q
    rw [hg] at hx
    simp only at hx ⊢
    cases hgs : guardSlot ops o with
    | nil => rw [hgs] at hx; exact hx
    | cons g gr =>
      cases gr with
      | cons g' gr => rw [hgs] at hx; exact hx
      | nil =>
        rw [hgs] at hx
        simp only at hx ⊢
        cases hl : lookM H ops o st g with
        | und => rw [hl] at hx; exact hx
        | c y =>
          rw [hl] at hx
          cases y with
          | v a =>
            simp only at hx ⊢
            rw [Option.bind_eq_some_iff] at hx; obtain ⟨b, hb, hx⟩ := hx
            rw [hb, Option.bind_some]
            cases e : b == want with
            | true => rw [e] at hx; exact run_mono hc hx
            | false => rw [e] at hx; exact hx
          | _ => exact hx
        | _ => rw [hl] at hx; exact hx

/-- What regions and code end in. -/
abbrev OR := St ⊕ (AV × Heap)
abbrev CE := (Ex × St) ⊕ (AV × Heap)

def kS : St → Option OR := fun st => some (.inl st)
def kP {α : Type} : AV → Heap → Option (α ⊕ (AV × Heap)) := fun a h => some (.inr (a, h))
def kE : Ex → St → Option CE := fun e st => some (.inl (e, st))
def elimE {ρ : Type} (K : Ex → St → Option ρ) (Kp : AV → Heap → Option ρ) : CE → Option ρ
  | .inl p => K p.1 p.2
  | .inr p => Kp p.1 p.2

theorem opsK_bind {ρ : Type} {K : St → Option ρ} {Kp : AV → Heap → Option ρ} : ∀ (l : List (Nat × Oper)) (st : St), opsK E H nt call ops l st K Kp = (opsK E H nt call ops l st kS kP).bind (elimS K Kp)
  | [], st => rfl
  | (i, o) :: l, st => by
    unfold opsK
    rw [step_bind, step_bind (ρ := OR)]
    cases stepD E H nt call ops i o st with
    | none => rfl
    | some sr =>
      cases sr with
      | inl st' => exact opsK_bind l st'
      | inr p => rfl

theorem opsK_mono (hc : Le call call') : ∀ (l : List (Nat × Oper)) (st : St) {x : OR}, opsK E H nt call ops l st kS kP = some x → opsK E H nt call' ops l st kS kP = some x
  | [], st, x, h => h
  | (i, o) :: l, st, x, h => by
    unfold opsK at h ⊢
    rw [step_bind, Option.bind_eq_some_iff] at h
    obtain ⟨sr, hsr, h⟩ := h
    rw [step_bind, step_mono hc hsr, Option.bind_some]
    cases sr with
    | inl st' => exact opsK_mono hc l st' h
    | inr p => exact h

theorem restK_bind {ρ : Type} {hangs : Nat → Bool} {y : Option ρ} {z : ρ} : ∀ (l : List (Nat × Oper)) (st : St), restK E H nt call ops hangs l st y = (restK E H nt call ops hangs l st (some ())).bind fun _ => y
  | [], st => rfl
  | (i, o) :: l, st => by
    unfold restK
    cases hangs i with
    | true => exact restK_bind (z := z) l st
    | false =>
      simp only [cond_false]
      rw [step_bind, step_bind (ρ := Unit)]
      cases stepD E H nt call ops i o st with
      | none => rfl
      | some sr =>
        cases sr with
        | inl st' => exact restK_bind (z := z) l st'
        | inr p => rfl

theorem restK_mono (hc : Le call call') {hangs : Nat → Bool} : ∀ (l : List (Nat × Oper)) (st : St), restK E H nt call ops hangs l st (some ()) = some () → restK E H nt call' ops hangs l st (some ()) = some ()
  | [], st, h => h
  | (i, o) :: l, st, h => by
    unfold restK at h ⊢
    cases e : hangs i with
    | true => rw [e] at h; exact restK_mono hc l st h
    | false =>
      rw [e] at h
      simp only [cond_false] at h ⊢
      rw [step_bind, Option.bind_eq_some_iff] at h
      obtain ⟨sr, hsr, h⟩ := h
      rw [step_bind, step_mono hc hsr, Option.bind_some]
      cases sr with
      | inl st' => exact restK_mono hc l st' h
      | inr p => exact h

theorem opsD_bind {ρ : Type} {anc : List Nat} {K : St → Option ρ} {Kp : AV → Heap → Option ρ} : ∀ (l : List (Nat × Oper)) (st : St), opsD E H nt call ops anc l st K Kp = (opsD E H nt call ops anc l st kS kP).bind (elimS K Kp)
  | [], st => rfl
  | (i, o) :: l, st => by
    unfold opsD
    rw [step_bind, step_bind (ρ := OR)]
    cases stepD E H nt call ops i o st with
    | none => rfl
    | some sr =>
      cases sr with
      | inl st' => exact opsD_bind l st'
      | inr p =>
        simp only [Option.bind_some, elimS]
        cases hW H o with
        | false => rfl
        | true =>
          simp only [cond_true]
          rw [restK_bind (y := kP p.1 p.2) (z := (.inr p : OR))]
          cases hr : restK E H nt call ops (fun j => (anc.getD j 0).testBit i) l st (some ()) with
          | none =>
            cases hk : restK E H nt call ops (fun j => (anc.getD j 0).testBit i) l st (Kp p.1 p.2) with
            | none => rfl
            | some z => rw [restK_bind (z := z), hr] at hk; cases hk
          | some u =>
            cases hk : Kp p.1 p.2 with
            | none =>
              cases hk2 : restK E H nt call ops (fun j => (anc.getD j 0).testBit i) l st (none : Option ρ) with
              | none => simp only [Option.bind_some, kP, elimS, hk]
              | some z => have := restK_x hk2; cases this
            | some z =>
              rw [restK_bind (z := z), hr]
              simp only [Option.bind_some, kP, elimS, hk]

theorem opsD_mono (hc : Le call call') {anc : List Nat} : ∀ (l : List (Nat × Oper)) (st : St) {x : OR}, opsD E H nt call ops anc l st kS kP = some x → opsD E H nt call' ops anc l st kS kP = some x
  | [], st, x, h => h
  | (i, o) :: l, st, x, h => by
    rcases opsD_cons.1 h with ⟨st1, h1, h⟩ | ⟨p, h1, hw, h⟩
    · exact opsD_cons.2 (.inl ⟨st1, step_mono hc h1, opsD_mono hc l st1 h⟩)
    · refine opsD_cons.2 (.inr ⟨p, step_mono hc h1, hw, ?_⟩)
      rw [restK_bind (z := x), Option.bind_eq_some_iff] at h
      obtain ⟨u, hu, h⟩ := h
      rw [restK_bind (z := x), restK_mono hc l st hu]; exact h

/-- What is handed on behind a round is kept. -/
def keepB {ρ : Type} (H : FHint) (bi : Nat) (K : Ex → St → Option ρ) : Ex → St → Option ρ := fun e st' => match e with
  | .normal => K .normal (st'.keep (lkN H.keep bi))
  | .exit i => K (.exit i) st'
  | .ret => K .ret st'

theorem evC_bind : ∀ (c : Code) {ρ : Type} (bi : Nat) (st : St) (K : Ex → St → Option ρ) (Kp : AV → Heap → Option ρ), evC E H nt call n c bi st K Kp = (evC E H nt call n c bi st kE kP).bind (elimE K Kp) := by
  intro c
  induction c with
  | skip => intro ρ bi st K Kp; rfl
  | region id ops draw =>
    intro ρ bi st K Kp
    unfold evC
    cases draw with
    | true =>
      simp only [cond_true]
      cases drawOk H ops (ancs ops.toList []) (indexed ops) with
      | false => rfl
      | true =>
        simp only [cond_true]
        rw [opsD_bind, opsD_bind (ρ := CE)]
        cases opsD E H nt call ops (ancs ops.toList []) (indexed ops) st kS kP with
        | none => rfl
        | some x =>
          cases x with
          | inl st' => exact (cutK_bind (n := n) (l := lkN H.keepR id) (st := st'.endReg) (K := kE .normal) (f := elimE K Kp)).symm
          | inr p => rfl
    | false =>
      simp only [cond_false]
      rw [opsK_bind, opsK_bind (ρ := CE)]
      cases opsK E H nt call ops (indexed ops) st kS kP with
      | none => rfl
      | some x =>
        cases x with
        | inl st' => exact (cutK_bind (n := n) (l := lkN H.keepR id) (st := st'.endReg) (K := kE .normal) (f := elimE K Kp)).symm
        | inr p => rfl
  | seq x y ihx ihy =>
    intro ρ bi st K Kp
    unfold evC
    refine (ihx bi st _ _).trans (Eq.trans ?_ (congrArg (fun z => Option.bind z (elimE K Kp)) (ihx bi st _ _).symm))
    cases evC E H nt call n x bi st kE kP with
    | none => rfl
    | some r =>
      cases r with
      | inr p => rfl
      | inl p =>
        obtain ⟨e, st'⟩ := p
        cases e with
        | normal => exact ihy bi st' K Kp
        | exit i => rfl
        | ret => rfl
  | cond c x y ihx ihy =>
    intro ρ bi st K Kp
    unfold evC
    cases rdA E 0 st.s c with
    | none => rfl
    | some a =>
      simp only [Option.bind_some]
      cases boolOf a with
      | none => rfl
      | some t =>
        simp only [Option.bind_some]
        cases t with
        | true => exact ihx bi st K Kp
        | false => exact ihy bi st K Kp
  | block i c ih =>
    intro ρ bi st K Kp
    unfold evC
    refine (ih i st _ _).trans (Eq.trans ?_ (congrArg (fun z => Option.bind z (elimE K Kp)) (ih i st _ _).symm))
    cases evC E H nt call n c i st kE kP with
    | none => rfl
    | some r =>
      cases r with
      | inr p => rfl
      | inl p =>
        obtain ⟨e, st'⟩ := p
        cases e with
        | normal => rfl
        | exit j =>
          simp only [Option.bind_some, elimE]
          cases Nat.beq j i <;> rfl
        | ret => rfl
  | loop c ih =>
    intro ρ bi st K Kp
    unfold evC
    have key : ∀ (m : Nat) (st : St), loopK (fun st K => evC E H nt call n c bi st (keepB H bi K) Kp) m st K = (loopK (fun st K => evC E H nt call n c bi st (keepB H bi K) kP) m st kE).bind (elimE K Kp) := by
      intro m
      induction m with
      | zero => intro st; rfl
      | succ m ihm =>
        intro st
        unfold loopK
        refine (ih bi _ _ _).trans (Eq.trans ?_ (congrArg (fun z => Option.bind z (elimE K Kp)) (ih bi _ _ _).symm))
        cases evC E H nt call n c bi st kE kP with
        | none => rfl
        | some r =>
          cases r with
          | inr p => rfl
          | inl p =>
            obtain ⟨e, st'⟩ := p
            cases e with
            | normal => exact ihm _
            | exit j => rfl
            | ret => rfl
    exact key n _
  | exit i => intro ρ bi st K Kp; rfl
  | ret => intro ρ bi st K Kp; rfl
  | _ => intro ρ bi st K Kp; rfl

theorem evC_mono (hc : Le call call') (hn : n ≤ n') : ∀ (c : Code) (bi : Nat) (st : St) {x : CE}, evC E H nt call n c bi st kE kP = some x → evC E H nt call' n' c bi st kE kP = some x := by
  intro c
  induction c with
  | skip => intro bi st x h; exact h
  | region id ops draw =>
    intro bi st x h
    unfold evC at h ⊢
    cases draw with
    | true =>
      simp only [cond_true] at h ⊢
      obtain ⟨hd, h⟩ := condE h
      rw [hd, cond_true]
      rw [opsD_bind, Option.bind_eq_some_iff] at h
      obtain ⟨y, hy, h⟩ := h
      rw [opsD_bind, opsD_mono hc _ _ hy]
      cases y with
      | inl st' => exact cutK_mono hn h
      | inr p => exact h
    | false =>
      simp only [cond_false] at h ⊢
      rw [opsK_bind, Option.bind_eq_some_iff] at h
      obtain ⟨y, hy, h⟩ := h
      rw [opsK_bind, opsK_mono hc _ _ hy]
      cases y with
      | inl st' => exact cutK_mono hn h
      | inr p => exact h
  | seq a b iha ihb =>
    intro bi st x h
    unfold evC at h ⊢
    rw [evC_bind, Option.bind_eq_some_iff] at h
    obtain ⟨y, hy, h⟩ := h
    rw [evC_bind, iha bi st hy, Option.bind_some]
    cases y with
    | inr p => exact h
    | inl p =>
      obtain ⟨e, st'⟩ := p
      cases e with
      | normal => exact ihb bi st' h
      | exit i => exact h
      | ret => exact h
  | cond c a b iha ihb =>
    intro bi st x h
    unfold evC at h ⊢
    rw [Option.bind_eq_some_iff] at h; obtain ⟨v, hv, h⟩ := h
    rw [Option.bind_eq_some_iff] at h; obtain ⟨t, ht, h⟩ := h
    rw [hv, Option.bind_some, ht, Option.bind_some]
    cases t with
    | true => exact iha bi st h
    | false => exact ihb bi st h
  | block i c ih =>
    intro bi st x h
    unfold evC at h ⊢
    rw [evC_bind, Option.bind_eq_some_iff] at h
    obtain ⟨y, hy, h⟩ := h
    rw [evC_bind, ih i st hy, Option.bind_some]
    exact h
  | loop c ih =>
    intro bi st x h
    unfold evC at h ⊢
    have key : ∀ (m m' : Nat) (st : St), m ≤ m' → loopK (fun st K => evC E H nt call n c bi st (keepB H bi K) kP) m st kE = some x → loopK (fun st K => evC E H nt call' n' c bi st (keepB H bi K) kP) m' st kE = some x := by
      intro m
      induction m with
      | zero => intro m' st _ h; cases h
      | succ m ihm =>
        intro m' st hm h
        obtain ⟨m'', rfl⟩ : ∃ m'', m' = m'' + 1 := ⟨m' - 1, by omega⟩
        unfold loopK at h ⊢
        rw [evC_bind, Option.bind_eq_some_iff] at h
        obtain ⟨y, hy, h⟩ := h
        rw [evC_bind, ih bi _ hy, Option.bind_some]
        cases y with
        | inr p => exact h
        | inl p =>
          obtain ⟨e, st'⟩ := p
          cases e with
          | normal => exact ihm m'' _ (by omega) h
          | exit i => exact h
          | ret => exact h
    exact key n n' _ hn h
  | exit i => intro bi st x h; exact h
  | ret => intro bi st x h; exact h
  | _ => intro bi st x h; cases h

/-- Prims are told the more, the more their calls tell, and look at few of them. -/
structure PrimC (p : (Nat → List AV → Heap → R) → List AV → Heap → R) : Prop where
  mono : ∀ c c', Le c c' → ∀ args h r, p c args h = some r → p c' args h = some r
  few : ∀ (c : Nat → Nat → List AV → Heap → R) (c' : Nat → List AV → Heap → R), (∀ k, Le (c k) (c (k + 1))) → (∀ f args h r, c' f args h = some r → ∃ k, c k f args h = some r) → ∀ args h r, p c' args h = some r → ∃ k, p (c k) args h = some r

def PrimsC (E : Env) : Prop := ∀ f p, E.prim f = some p → PrimC p

theorem PrimC.const (q : List AV → Heap → R) : PrimC (fun _ => q) := ⟨fun _ _ _ _ _ _ h => h, fun _ _ _ _ _ _ _ h => ⟨0, h⟩⟩

theorem ev_mono (hp : PrimsC E) : ∀ k, Le (ev E k) (ev E (k + 1))
  | 0 => fun f args h r he => by cases he
  | k + 1 => fun f args h r he => by
    have ih := ev_mono hp k
    unfold ev at he ⊢
    split at he
    · rename_i p hpf
      exact (hp f p hpf).mono _ _ ih _ _ _ he
    · split at he
      · cases he
      · split at he
        · cases he
        · obtain ⟨hle, he⟩ := condE he
          rw [hle, cond_true]
          rw [evC_bind, Option.bind_eq_some_iff] at he
          obtain ⟨y, hy, he⟩ := he
          rw [evC_bind, evC_mono ih (Nat.le_succ k) _ _ _ hy]; exact he

theorem ev_le (hp : PrimsC E) {k k' : Nat} (h : k ≤ k') : Le (ev E k) (ev E k') := by
  induction h with
  | refl => exact fun _ _ _ _ h => h
  | step _ ih => exact fun f args h r he => ev_mono hp _ f args h r (ih f args h r he)

open Classical in
/-- A call, with as many steps as it takes. -/
noncomputable def evw (E : Env) (f : Nat) (args : List AV) (h : Heap) : R := if hx : ∃ r, ∃ k, ev E k f args h = some r then some hx.choose else none

theorem evw_iff (hp : PrimsC E) {f : Nat} {args : List AV} {h : Heap} {r : Out × Heap} : evw E f args h = some r ↔ ∃ k, ev E k f args h = some r := by
  unfold evw
  constructor
  · intro he
    split at he
    · rename_i hx
      have := Option.some.inj he
      rw [← this]; exact hx.choose_spec
    · cases he
  · rintro ⟨k, hk⟩
    have hx : ∃ r, ∃ k, ev E k f args h = some r := ⟨r, k, hk⟩
    rw [dif_pos hx]
    obtain ⟨k', hk'⟩ := hx.choose_spec
    have e1 := ev_le hp (Nat.le_max_left k k') f args h _ hk
    have e2 := ev_le hp (Nat.le_max_right k k') f args h _ hk'
    rw [e1] at e2; exact e2.symm

/-- Of what comes of calls without a count, few calls tell. -/
structure Lim (c : Nat → Nat → List AV → Heap → R) (c' : Nat → List AV → Heap → R) : Prop where
  mono : ∀ k k', k ≤ k' → Le (c k) (c k')
  few : ∀ f args h r, c' f args h = some r → ∃ k, c k f args h = some r

variable {c : Nat → Nat → List AV → Heap → R} {c' : Nat → List AV → Heap → R}

theorem core_lim (hl : Lim c c') {o : Oper} {look : Nat → Slot} {h : Heap} {x : CR} (hx : core E H c' o look h kD kpD = some x) : ∃ k, core E H (c k) o look h kD kpD = some x := by
  unfold core at hx ⊢
  cases hop : o.op <;> rw [hop] at hx
  case call cl =>
    cases hcal : cl.callee with
    | value f =>
      simp only [hcal] at hx ⊢
      rw [Option.bind_eq_some_iff] at hx; obtain ⟨fv, hfv, hx⟩ := hx
      rw [Option.bind_eq_some_iff] at hx; obtain ⟨args, hargs, hx⟩ := hx
      simp only [hfv, Option.bind_some, hargs]
      have key : ∀ {k1 : AV → Heap → Option CR} {k2 : Nat → List (List AV) → Heap → Option CR} {k3 : AV → Heap → Option CR}, onOut (applyV c' fv args h) k1 k2 k3 = some x → ∃ k, onOut (applyV (c k) fv args h) k1 k2 k3 = some x := by
        intro k1 k2 k3 hx
        unfold onOut at hx ⊢
        rw [Option.bind_eq_some_iff] at hx
        obtain ⟨y, hy, hx⟩ := hx
        have : ∃ k, applyV (c k) fv args h = some y := by
          unfold applyV at hy ⊢
          split at hy
          · exact hl.few _ _ _ _ hy
          · cases hy
        obtain ⟨k, hk⟩ := this
        exact ⟨k, by rw [hk]; exact hx⟩
      cases hp : dstIn H.pure o.dst with
      | true => rw [hp] at hx; simp only [cond_true] at hx ⊢; exact key hx
      | false => rw [hp] at hx; simp only [cond_false] at hx ⊢; exact key hx
    | _ => (simp only [hcal] at hx ⊢; exact ⟨0, hx⟩)
  case makeFunc f first caps => cases f <;> exact ⟨0, hx⟩
  case slice T x lo hi mx => cases mx <;> exact ⟨0, hx⟩
  all_goals exact ⟨0, hx⟩

theorem step_lim (hl : Lim c c') {i : Nat} {o : Oper} {st : St} {x : SR} (hx : stepD E H nt c' ops i o st = some x) : ∃ k, stepD E H nt (c k) ops i o st = some x := by
  have run : runK E H nt c' ops i o st (fun st => some (.inl st : SR)) (fun a h => some (.inr (a, h))) = some x → ∃ k, runK E H nt (c k) ops i o st (fun st => some (.inl st : SR)) (fun a h => some (.inr (a, h))) = some x := fun hx => by
    unfold runK at hx
    rw [core_bind, Option.bind_eq_some_iff] at hx
    obtain ⟨y, hy, hx⟩ := hx
    obtain ⟨k, hk⟩ := core_lim hl hy
    refine ⟨k, ?_⟩
    unfold runK
    rw [core_bind, hk]; exact hx
  unfold stepD stepK at hx ⊢
  cases hg : o.guard with
  | none => rw [hg] at hx; exact run hx
  | some q =>
    obtain ⟨j, want⟩ := q
    rw [hg] at hx
    simp only at hx ⊢
    cases hgs : guardSlot ops o with
    | nil => rw [hgs] at hx; exact ⟨0, hx⟩
    | cons g gr =>
      cases gr with
      | cons g' gr => rw [hgs] at hx; exact ⟨0, hx⟩
      | nil =>
        rw [hgs] at hx
        simp only at hx ⊢
        cases hlk : lookM H ops o st g with
        | und => rw [hlk] at hx; exact ⟨0, hx⟩
        | c y =>
          rw [hlk] at hx
          cases y with
          | v a =>
            simp only at hx ⊢
            rw [Option.bind_eq_some_iff] at hx; obtain ⟨b, hb, hx⟩ := hx
            simp only [hb, Option.bind_some]
            cases e : b == want with
            | true => rw [e] at hx; exact run hx
            | false => rw [e] at hx; exact ⟨0, hx⟩
          | _ => exact ⟨0, hx⟩
        | _ => rw [hlk] at hx; exact ⟨0, hx⟩

theorem opsK_lim (hl : Lim c c') : ∀ (l : List (Nat × Oper)) (st : St) {x : OR}, opsK E H nt c' ops l st kS kP = some x → ∃ k, opsK E H nt (c k) ops l st kS kP = some x
  | [], st, x, h => ⟨0, h⟩
  | (i, o) :: l, st, x, h => by
    unfold opsK at h
    rw [step_bind, Option.bind_eq_some_iff] at h
    obtain ⟨sr, hsr, h⟩ := h
    obtain ⟨k1, hk1⟩ := step_lim hl hsr
    cases sr with
    | inl st' =>
      obtain ⟨k2, hk2⟩ := opsK_lim hl l st' h
      refine ⟨max k1 k2, ?_⟩
      unfold opsK
      rw [step_bind, step_mono (hl.mono _ _ (Nat.le_max_left k1 k2)) hk1]
      exact opsK_mono (hl.mono _ _ (Nat.le_max_right k1 k2)) l st' hk2
    | inr p =>
      refine ⟨k1, ?_⟩
      unfold opsK
      rw [step_bind, hk1]; exact h

theorem restK_lim (hl : Lim c c') {hangs : Nat → Bool} : ∀ (l : List (Nat × Oper)) (st : St), restK E H nt c' ops hangs l st (some ()) = some () → ∃ k, restK E H nt (c k) ops hangs l st (some ()) = some ()
  | [], st, h => ⟨0, h⟩
  | (i, o) :: l, st, h => by
    unfold restK at h
    cases e : hangs i with
    | true =>
      rw [e] at h
      obtain ⟨k, hk⟩ := restK_lim hl l st h
      exact ⟨k, by unfold restK; rw [e]; exact hk⟩
    | false =>
      rw [e] at h
      simp only [cond_false] at h
      rw [step_bind, Option.bind_eq_some_iff] at h
      obtain ⟨sr, hsr, h⟩ := h
      obtain ⟨k1, hk1⟩ := step_lim hl hsr
      cases sr with
      | inl st' =>
        obtain ⟨k2, hk2⟩ := restK_lim hl l st' h
        refine ⟨max k1 k2, (restK_cons e).2 ⟨st', step_mono (hl.mono _ _ (Nat.le_max_left k1 k2)) hk1, restK_mono (hl.mono _ _ (Nat.le_max_right k1 k2)) l st' hk2⟩⟩
      | inr p => cases h

theorem opsD_lim (hl : Lim c c') {anc : List Nat} : ∀ (l : List (Nat × Oper)) (st : St) {x : OR}, opsD E H nt c' ops anc l st kS kP = some x → ∃ k, opsD E H nt (c k) ops anc l st kS kP = some x
  | [], st, x, h => ⟨0, h⟩
  | (i, o) :: l, st, x, h => by
    rcases opsD_cons.1 h with ⟨st1, h1, h⟩ | ⟨p, h1, hw, h⟩
    · obtain ⟨k1, hk1⟩ := step_lim hl h1
      obtain ⟨k2, hk2⟩ := opsD_lim hl l st1 h
      exact ⟨max k1 k2, opsD_cons.2 (.inl ⟨st1, step_mono (hl.mono _ _ (Nat.le_max_left k1 k2)) hk1, opsD_mono (hl.mono _ _ (Nat.le_max_right k1 k2)) l st1 hk2⟩)⟩
    · obtain ⟨k1, hk1⟩ := step_lim hl h1
      rw [restK_bind (z := x), Option.bind_eq_some_iff] at h
      obtain ⟨u, hu, h⟩ := h
      obtain ⟨k2, hk2⟩ := restK_lim hl l st hu
      refine ⟨max k1 k2, opsD_cons.2 (.inr ⟨p, step_mono (hl.mono _ _ (Nat.le_max_left k1 k2)) hk1, hw, ?_⟩)⟩
      rw [restK_bind (z := x), restK_mono (hl.mono _ _ (Nat.le_max_right k1 k2)) l st hk2]; exact h

theorem evC_lim (hl : Lim c c') : ∀ (cd : Code) (bi : Nat) (st : St) {x : CE}, evC E H nt c' n cd bi st kE kP = some x → ∃ k, evC E H nt (c k) n cd bi st kE kP = some x := by
  intro cd
  induction cd with
  | skip => intro bi st x h; exact ⟨0, h⟩
  | region id ops draw =>
    intro bi st x h
    unfold evC at h ⊢
    cases draw with
    | true =>
      simp only [cond_true] at h ⊢
      obtain ⟨hd, h⟩ := condE h
      rw [hd]
      simp only [cond_true]
      rw [opsD_bind, Option.bind_eq_some_iff] at h
      obtain ⟨y, hy, h⟩ := h
      obtain ⟨k, hk⟩ := opsD_lim hl _ _ hy
      exact ⟨k, by rw [opsD_bind, hk]; exact h⟩
    | false =>
      simp only [cond_false] at h ⊢
      rw [opsK_bind, Option.bind_eq_some_iff] at h
      obtain ⟨y, hy, h⟩ := h
      obtain ⟨k, hk⟩ := opsK_lim hl _ _ hy
      exact ⟨k, by rw [opsK_bind, hk]; exact h⟩
  | seq a b iha ihb =>
    intro bi st x h
    unfold evC at h ⊢
    rw [evC_bind, Option.bind_eq_some_iff] at h
    obtain ⟨y, hy, h⟩ := h
    obtain ⟨k1, hk1⟩ := iha bi st hy
    cases y with
    | inr p => exact ⟨k1, by rw [evC_bind, hk1]; exact h⟩
    | inl p =>
      obtain ⟨e, st'⟩ := p
      cases e with
      | normal =>
        obtain ⟨k2, hk2⟩ := ihb bi st' h
        refine ⟨max k1 k2, ?_⟩
        rw [evC_bind, evC_mono (hl.mono _ _ (Nat.le_max_left k1 k2)) (Nat.le_refl n) _ _ _ hk1]
        exact evC_mono (hl.mono _ _ (Nat.le_max_right k1 k2)) (Nat.le_refl n) _ _ _ hk2
      | exit i => exact ⟨k1, by rw [evC_bind, hk1]; exact h⟩
      | ret => exact ⟨k1, by rw [evC_bind, hk1]; exact h⟩
  | cond cc a b iha ihb =>
    intro bi st x h
    unfold evC at h ⊢
    rw [Option.bind_eq_some_iff] at h; obtain ⟨v, hv, h⟩ := h
    rw [Option.bind_eq_some_iff] at h; obtain ⟨t, ht, h⟩ := h
    simp only [hv, Option.bind_some, ht]
    cases t with
    | true => exact iha bi st h
    | false => exact ihb bi st h
  | block i cd ih =>
    intro bi st x h
    unfold evC at h ⊢
    rw [evC_bind, Option.bind_eq_some_iff] at h
    obtain ⟨y, hy, h⟩ := h
    obtain ⟨k, hk⟩ := ih i st hy
    exact ⟨k, by rw [evC_bind, hk]; exact h⟩
  | loop cd ih =>
    intro bi st x h
    unfold evC at h ⊢
    have key : ∀ (m : Nat) (st : St), loopK (fun st K => evC E H nt c' n cd bi st (keepB H bi K) kP) m st kE = some x → ∃ k, loopK (fun st K => evC E H nt (c k) n cd bi st (keepB H bi K) kP) m st kE = some x := by
      intro m
      induction m with
      | zero => intro st h; cases h
      | succ m ihm =>
        intro st h
        unfold loopK at h
        rw [evC_bind, Option.bind_eq_some_iff] at h
        obtain ⟨y, hy, h⟩ := h
        obtain ⟨k1, hk1⟩ := ih bi _ hy
        cases y with
        | inr p => exact ⟨k1, by unfold loopK; rw [evC_bind, hk1]; exact h⟩
        | inl p =>
          obtain ⟨e, st'⟩ := p
          cases e with
          | normal =>
            obtain ⟨k2, hk2⟩ := ihm _ h
            refine ⟨max k1 k2, ?_⟩
            unfold loopK
            rw [evC_bind, evC_mono (hl.mono _ _ (Nat.le_max_left k1 k2)) (Nat.le_refl n) _ _ _ hk1]
            have gen : ∀ (m : Nat) (st : St) {k k' : Nat}, k ≤ k' → loopK (fun st K => evC E H nt (c k) n cd bi st (keepB H bi K) kP) m st kE = some x → loopK (fun st K => evC E H nt (c k') n cd bi st (keepB H bi K) kP) m st kE = some x := by
              intro m
              induction m with
              | zero => intro st k k' _ h; cases h
              | succ m ihm2 =>
                intro st k k' hkk h
                unfold loopK at h ⊢
                rw [evC_bind, Option.bind_eq_some_iff] at h
                obtain ⟨y, hy, h⟩ := h
                rw [evC_bind, evC_mono (hl.mono _ _ hkk) (Nat.le_refl n) _ _ _ hy, Option.bind_some]
                cases y with
                | inr p => exact h
                | inl p =>
                  obtain ⟨e, st'⟩ := p
                  cases e with
                  | normal => exact ihm2 _ hkk h
                  | exit i => exact h
                  | ret => exact h
            exact gen m _ (Nat.le_max_right k1 k2) hk2
          | exit i => exact ⟨k1, by unfold loopK; rw [evC_bind, hk1]; exact h⟩
          | ret => exact ⟨k1, by unfold loopK; rw [evC_bind, hk1]; exact h⟩
    exact key n _ h
  | exit i => intro bi st x h; exact ⟨0, h⟩
  | ret => intro bi st x h; exact ⟨0, h⟩
  | _ => intro bi st x h; cases h

theorem ev_lim (hp : PrimsC E) : Lim (ev E) (evw E) := ⟨fun _ _ h => ev_le hp h, fun _ _ _ _ h => (evw_iff hp).1 h⟩

/-- What follows a function's body. -/
noncomputable def outK (E : Env) (f : Nat) (fn : Func) (h : Heap) : Ex → St → R := fun e st => match e with
  | .exit _ => none
  | _ => finish E (E.hint f) fn h st

/-- A call, by its code. 'n': rounds enough for each of its loops. -/
theorem evw_of (hp : PrimsC E) (n : Nat) {f : Nat} {fn : Func} {cd : Code} (hf : E.prim f = none) (hc : E.code f = some fn) (hb : fn.body = some cd) {args : List AV} {h : Heap} {r : Out × Heap} (hle : Nat.ble args.length fn.ntmps = true)
    (he : evC E (E.hint f) fn.ntmps (evw E) n cd 0 { s := lkS (argSlots 0 args), h := h } (outK E f fn h) (fun a h' => trunc (E.hint f) h (.pan a) h') = some r) : evw E f args h = some r := by
  rw [evC_bind, Option.bind_eq_some_iff] at he
  obtain ⟨y, hy, he⟩ := he
  obtain ⟨k, hk⟩ := evC_lim (ev_lim hp) cd 0 _ hy
  refine (evw_iff hp).2 ⟨max k n + 1, ?_⟩
  unfold ev
  rw [hf, hc]
  simp only [hb, hle, cond_true]
  rw [evC_bind, evC_mono (ev_le hp (Nat.le_max_left k n)) (Nat.le_max_right k n) cd 0 _ hk, Option.bind_some]
  cases y with
  | inr p => exact he
  | inl p =>
    obtain ⟨e, st⟩ := p
    cases e <;> exact he

/-- A call of a prim. -/
theorem evw_prim (hp : PrimsC E) {f : Nat} {p : (Nat → List AV → Heap → R) → List AV → Heap → R} (hf : E.prim f = some p) {args : List AV} {h : Heap} {r : Out × Heap} (he : p (evw E) args h = some r) : evw E f args h = some r := by
  obtain ⟨k, hk⟩ := (hp f p hf).few (ev E) (evw E) (ev_mono hp) (fun f args h r he => (evw_iff hp).1 he) args h r he
  refine (evw_iff hp).2 ⟨k + 1, ?_⟩
  unfold ev
  rw [hf]; exact hk

end
end Go.Sh

/- Places in code; tables of types; what a seat's environment must show. -/
namespace Go.Sh
open Go
set_option linter.unusedVariables false
set_option linter.unusedSimpArgs false

inductive Dir where
  | l | r | b | t | e
  | lp (m : Nat)

/-- A place in code: the code there, the block around it, what follows. -/
noncomputable def ctx (E : Env) (H : FHint) (nt : Nat) (F : Nat → List AV → Heap → R) (n : Nat) (Kp : AV → Heap → R) : List Dir → Code → Nat → (Ex → St → R) → Code × Nat × (Ex → St → R)
  | .l :: p, .seq a b, bi, K => ctx E H nt F n Kp p a bi (fun e st' => match e with
      | .normal => evC E H nt F n b bi st' K Kp
      | .exit i => K (.exit i) st'
      | .ret => K .ret st')
  | .r :: p, .seq a b, bi, K => ctx E H nt F n Kp p b bi K
  | .t :: p, .cond c a b, bi, K => ctx E H nt F n Kp p a bi K
  | .e :: p, .cond c a b, bi, K => ctx E H nt F n Kp p b bi K
  | .b :: p, .block i c, _, K => ctx E H nt F n Kp p c i (fun e st' => match e with
      | .normal => K .normal (st'.keep (lkN H.keep i))
      | .exit j => bif Nat.beq j i then K .normal (st'.keep (lkN H.keep i)) else K (.exit j) st'
      | .ret => K .ret st')
  | .lp m :: p, .loop c, bi, K => ctx E H nt F n Kp p c bi (keepB H bi (fun e st' => match e with
      | .normal => loopK (fun st K => evC E H nt F n c bi st (keepB H bi K) Kp) m st' K
      | .exit i => K (.exit i) st'
      | .ret => K .ret st'))
  | _, c, bi, K => (c, bi, K)

/-- A loop at a place, with so many rounds left. -/
noncomputable def loopAt (E : Env) (f : Nat) (fn : Func) (F : Nat → List AV → Heap → R) (n : Nat) (h0 : Heap) (p : List Dir) (m : Nat) (st : St) : R :=
  match fn.body with
  | none => none
  | some c0 => match ctx E (E.hint f) fn.ntmps F n (fun a h' => trunc (E.hint f) h0 (.pan a) h') p c0 0 (outK E f fn h0) with
    | (.loop c, bi, K) => loopK (fun st K => evC E (E.hint f) fn.ntmps F n c bi st (keepB (E.hint f) bi K) (fun a h' => trunc (E.hint f) h0 (.pan a) h')) m st K
    | _ => none

/-- What follows a region at a place. -/
noncomputable def contAt (E : Env) (f : Nat) (fn : Func) (F : Nat → List AV → Heap → R) (n : Nat) (h0 : Heap) (p : List Dir) (st : St) : R :=
  match fn.body with
  | none => none
  | some c0 => gateK n ((ctx E (E.hint f) fn.ntmps F n (fun a h' => trunc (E.hint f) h0 (.pan a) h') p c0 0 (outK E f fn h0)).2.2 .normal st)

/-- A function's run. -/
noncomputable def runF (E : Env) (f : Nat) (fn : Func) (F : Nat → List AV → Heap → R) (n : Nat) (args : List AV) (h : Heap) : R :=
  match fn.body with
  | none => none
  | some c => evC E (E.hint f) fn.ntmps F n c 0 { s := lkS (argSlots 0 args), h := h } (outK E f fn h) (fun a h' => trunc (E.hint f) h (.pan a) h')

theorem evw_run {E : Env} (hp : PrimsC E) (n : Nat) {f : Nat} {fn : Func} (hf : E.prim f = none) (hc : E.code f = some fn) {args : List AV} {h : Heap} {r : Out × Heap} (hle : Nat.ble args.length fn.ntmps = true)
    (he : runF E f fn (evw E) n args h = some r) : evw E f args h = some r := by
  unfold runF at he
  cases hb : fn.body with
  | none => rw [hb] at he; cases he
  | some c => rw [hb] at he; exact evw_of hp n hf hc hb hle he

/- tables -/
def concEq : Value → Cell → Bool
  | .bool a, .v (.lit (.bool b)) => a == b
  | .int k a, .v (.lit (.int j b)) => decide (k = j) && decide (a = b)
  | .string a, .v (.lit (.string b)) => a.data.toList.isEmpty && b.data.toList.isEmpty
  | .pointer none, .v (.lit (.pointer none)) => true
  | .nilIface, .v (.lit .nilIface) => true
  | .nilFunc, .v (.lit .nilFunc) => true
  | .slice none 0 0, .nil _ => true
  | .slice none 0 0, .v (.lit (.slice none 0 0)) => true
  | _, _ => false

theorem concEq_ok {v : Value} {c : Cell} (h : concEq v c = true) : v = c.conc ∧ c.plain = true := by
  unfold concEq at h
  split at h
  · simp only [beq_iff_eq] at h; subst h; exact ⟨rfl, rfl⟩
  · simp only [Bool.and_eq_true, decide_eq_true_eq] at h
    obtain ⟨rfl, rfl⟩ := h; exact ⟨rfl, rfl⟩
  · rename_i a b
    simp only [Bool.and_eq_true, List.isEmpty_iff] at h
    obtain ⟨h1, h2⟩ := h
    have : a = b := by
      cases a; cases b
      congr 1
      exact Array.ext' (by rw [h1, h2])
    subst this; exact ⟨rfl, rfl⟩
  all_goals first | exact ⟨rfl, rfl⟩ | cases h

def concs : List Value → List Cell → Bool
  | [], [] => true
  | v :: l, c :: m => concEq v c && concs l m
  | _, _ => false

theorem concs_ok : ∀ {l : List Value} {m : List Cell}, concs l m = true → l = m.map Cell.conc ∧ m.all Cell.plain = true
  | [], [], _ => ⟨rfl, rfl⟩
  | v :: l, c :: m, h => by
    unfold concs at h
    simp only [Bool.and_eq_true] at h
    obtain ⟨h1, h2⟩ := concEq_ok h.1
    obtain ⟨h3, h4⟩ := concs_ok h.2
    exact ⟨by rw [List.map_cons, ← h1, ← h3], by rw [List.all_cons, h2, h4]; rfl⟩
  | [], _ :: _, h => by cases h
  | _ :: _, [], h => by cases h

def tyB (P : Program) (t : TypeId) (i : TI) : Bool :=
  match P.info? t with
  | some ti => Nat.beq ti.size i.size && Nat.beq ti.bytes i.bytes && Nat.beq i.zero.length i.size && (match ti.zero with
    | some z => concs z.cells.toList i.zero && (match z with | .agg _ => true | _ => !i.agg)
    | none => false)
  | none => false

theorem TyOk.of {P : Program} {t : TypeId} {i : TI} (hu : P.underlying t = some i.desc) (h : tyB P t i = true) : TyOk P t i := by
  refine ⟨hu, ?_⟩
  unfold tyB at h
  split at h
  · rename_i ti hti
    simp only [Bool.and_eq_true] at h
    obtain ⟨⟨⟨h1, h2⟩, h3⟩, h4⟩ := h
    split at h4
    · rename_i z hz
      simp only [Bool.and_eq_true] at h4
      obtain ⟨k1, k2⟩ := concs_ok h4.1
      refine ⟨ti, z, hti, beqE h1, beqE h2, hz, k1, k2, fun hagg => ?_, beqE h3⟩
      have h5 := h4.2
      split at h5
      · rfl
      · rw [hagg] at h5; cases h5
    · cases h4
  · cases h

theorem lkN_mem {α : Type} : ∀ {l : List (Nat × α)} {n : Nat} {a : α}, lkN l n = some a → (n, a) ∈ l
  | [], n, a, h => by cases h
  | (x, b) :: r, n, a, h => by
    unfold lkN at h
    cases e : Nat.beq x n with
    | true =>
      rw [e] at h
      have := beqE e; subst this
      have h := Option.some.inj h; subst h; exact List.mem_cons_self
    | false => rw [e] at h; exact List.mem_cons_of_mem _ (lkN_mem h)

def AllF (P : Program) : List (Nat × Func) → Prop
  | [] => True
  | p :: r => P.funcs[p.1]? = some p.2 ∧ AllF P r
def AllT (P : Program) : List (Nat × TI) → Prop
  | [] => True
  | p :: r => TyOk P p.1 p.2 ∧ AllT P r

theorem AllF.get {P : Program} : ∀ {l : List (Nat × Func)}, AllF P l → ∀ p ∈ l, P.funcs[p.1]? = some p.2
  | [], _, p, hp => by cases hp
  | q :: r, h, p, hp => by
    rcases List.mem_cons.1 hp with e | e
    · rw [e]; exact h.1
    · exact AllF.get h.2 p e
theorem AllT.get {P : Program} : ∀ {l : List (Nat × TI)}, AllT P l → ∀ p ∈ l, TyOk P p.1 p.2
  | [], _, p, hp => by cases hp
  | q :: r, h, p, hp => by
    rcases List.mem_cons.1 hp with e | e
    · rw [e]; exact h.1
    · exact AllT.get h.2 p e

def entB (l : List (Nat × Func)) : Bool := l.all fun p => !(p.2.name == "runtime.NumGoroutine") && p.2.body.isSome

/-- An environment out of lists. 'fs': the code that is stepped through; 'gs': that of the prims. -/
def mkEnv (P : Program) (fs : List (Nat × Func)) (ts : List (Nat × TI)) (prims : List (Nat × ((Nat → List AV → Heap → R) → List AV → Heap → R))) (hints : List (Nat × FHint)) (eqs : List Nat) : Env :=
  { P := P, code := fun f => lkN fs f, ty := fun t => lkN ts t, prim := fun f => lkN prims f, hint := fun f => (lkN hints f).getD {}, eqs := eqs }

theorem mkEnv_ok {P : Program} {fs gs : List (Nat × Func)} {ts : List (Nat × TI)} {prims : List (Nat × ((Nat → List AV → Heap → R) → List AV → Heap → R))} {hints : List (Nat × FHint)} {eqs : List Nat}
    (hf : AllF P fs) (hg : AllF P gs) (ht : AllT P ts) (hfe : entB fs = true) (hge : entB gs = true) (hpg : (prims.all fun p => (lkN gs p.1).isSome) = true) (he : (eqs.all fun t => !P.stoodInHeld t && !P.eqGuardType P.depth t) = true) (hm : P.follows .mixedOrders = true) :
    (mkEnv P fs ts prims hints eqs).Ok := by
  have ent : ∀ (l : List (Nat × Func)), AllF P l → entB l = true → ∀ f fn, lkN l f = some fn → ∃ fn, P.funcs[f]? = some fn ∧ (fn.name == "runtime.NumGoroutine") = false ∧ fn.body.isSome = true := by
    intro l hl hb f fn h
    have hm := lkN_mem h
    have := List.all_eq_true.1 hb _ hm
    simp only [Bool.and_eq_true, Bool.not_eq_true'] at this
    exact ⟨fn, hl.get _ hm, this.1, this.2⟩
  refine ⟨fun f fn h => hf.get _ (lkN_mem h), fun f h => ?_, fun t i h => ht.get _ (lkN_mem h), fun t h => ?_, hm⟩
  · rcases h with h | h
    · obtain ⟨fn, hfn⟩ := Option.isSome_iff_exists.1 h
      exact ent fs hf hfe f fn hfn
    · obtain ⟨p, hp⟩ := Option.isSome_iff_exists.1 h
      have := List.all_eq_true.1 hpg _ (lkN_mem hp)
      obtain ⟨fn, hfn⟩ := Option.isSome_iff_exists.1 this
      exact ent gs hg hge f fn hfn
  · have := List.all_eq_true.1 he t (memN_iff.1 h)
    exact (by simpa using this : P.stoodInHeld t = false ∧ P.eqGuardType P.depth t = false)

end Go.Sh

/- slices.Clone: what compares with nil. -/
namespace Go.Sh
open Go
set_option linter.unusedVariables false
set_option linter.unusedSimpArgs false

/-- No call tells anything. -/
def noCall : Nat → List AV → Heap → R := fun _ _ _ => none
theorem noCall_ok (P : Program) : SoundC P noCall := fun _ _ _ _ _ h => by cases h

theorem eq_nil {P : Program} {w : World} {T e : TypeId} (hu : P.underlying T = some (.slice e)) (a : Option Addr) (l c : Nat) : (Op.equal T (.slice a l c) (.slice none 0 0)).run P w = .ok a.isNone w := by
  have key : ∀ d, (Op.equalIn (d + 1) T (.slice a l c) (.slice none 0 0)).run P w = .ok a.isNone w := by
    intro d
    cases a <;> simp [Op.equalIn, run_underlying hu w]
  exact key 9999

section
variable {E : Env} {H : FHint} {d : Nat} {G : Gh} {w : World} {st : St} {a : Act} {o : Oper} {ops : Array Oper} {nt nn : Nat} {ro : Option Nat} {D : List Deferred}

/-- A slice compared with nil: one of the two; nil has no elements. -/
theorem step_eqNil (hi : ops[1]? = some o) {T e T' : TypeId} {u t : Nat} (ho : o.op = .binOp .eql T (.tmp u) (.const (.slice none 0 0)) T') (hg : o.guard = none) (hd : o.dst = some t) (hu : E.P.underlying T = some (.slice e))
    (hnt : a.tmps.size = nt) (r : RepSt d G w st a.tmps) (ht : t < nt) (hpb : st.pb t = false) {n : Nat} {es : List (List AV)} (hs : st.s u = .c (.v (.sl n es))) (K : Act → World → Prop) (Q : Exit → Act → World → Prop)
    (hK : ∀ b, (b = true → es = []) → ∀ a', RepSt d G w { s := upd st.s t (.c (.v (.lit (.bool b)))), h := st.h, pb := st.pb } a'.tmps → a'.tmps.size = nt → a'.defers = a.defers → K a' w) : wpOpIn (FF ro) nn E.P ops Q 1 K a w := by
  unfold wpOpIn
  rw [hi]
  simp only [Region.wanted, hg, if_true]
  refine wp_in ro (fun c h => by rw [ho] at h; cases h) ?_
  have hr := r.slot u
  rw [hs] at hr
  have hr : RepA G.S w G.μ (.sl n es) (a.tmps.getD u undef) := hr
  have key : ∀ b, (execOp a.eval o).run E.P w = .ok (.value (.bool b)) w → (b = true → es = []) → o.wp E.P a w K Q := by
    intro b hrun hb
    unfold Oper.wp
    rw [hrun, Oper.upon_value]
    refine hK b hb _ ?_ (by rw [put_tmps, putT_size, hnt]) (put_defers _ _ _)
    rw [put_tmps, hd]
    exact r.next (Ext.refl _ _ _) (some t) (.bool b) (fun _ e => by cases e; rw [hnt]; exact ht) (by simp [freeDst, hpb]) [(t, .c (.v (.lit (.bool b))))] st.h (fun _ e => by cases e; simp) (fun t' s hm => by
      simp only [List.mem_cons, Prod.mk.injEq, List.not_mem_nil, or_false] at hm
      obtain ⟨rfl, rfl⟩ := hm
      show RepA _ _ _ _ ((a.tmps.setIfInBounds t' _).getD t' undef)
      rw [getD_put _ _ _ _ (by rw [hnt]; exact ht), if_pos rfl]; exact .lit rfl) (fun _ _ _ hm => by simp at hm) (fun _ _ _ _ _ => ⟨rfl, rfl, rfl⟩) r.heap r.within
  have run : ∀ ba l c, a.tmps.getD u undef = .slice ba l c → (execOp a.eval o).run E.P w = .ok (.value (.bool ba.isNone)) w := by
    intro ba l c hv
    unfold execOp
    rw [ho]
    have hx : a.eval (.tmp u) = .slice ba l c := hv
    have hy : a.eval (.const (.slice none 0 0)) = .slice none 0 0 := rfl
    simp only [hx, hy, Sem.run_bind]
    have h1 : (eqGuard .eql T (.tmp u) (.const (.slice none 0 0)) (.slice ba l c) (.slice none 0 0)).run E.P w = .ok () w := by
      simp [eqGuard]
    rw [h1]
    simp [binOp, eq_nil hu]
  generalize hV : a.tmps.getD u undef = V at hr
  cases hr with
  | slN => exact key true (run none 0 0 hV) (fun _ => rfl)
  | slE _ ad => exact key false (run (some ad) 0 0 hV) (fun h => by cases h)
  | sl hc hr hv hs hn => exact key false (run _ _ _ hV) (fun h => by cases h)

/-- A piece of code that ends off its end, by its shadow. -/
theorem seg_ok (ok : E.Ok) {n bi : Nat} {G0 : Gh} {w0 : World} {c : Code} {st' : St} {Q : Exit → Act → World → Prop} (h : evC E H nt noCall n c bi st kE kP = some (.inl (.normal, st'))) (hat : AtSt d nt G0 w0 st a w) (hd : a.defers = D)
    (hQ : ∀ a' w', AtSt d nt G0 w0 st' a' w' → a'.defers = D → Q .normal a' w') : c.wpIn (FF ro) nn E.P Q a w := by
  refine Code.wpIn_mono (fun e a' w' hq => ?_) (evC_ok (ro := ro) (nn := nn) ok (noCall_ok _) c bi st kE a w h hat hd)
  obtain ⟨hd', hq⟩ := hq
  cases e with
  | normal =>
    obtain ⟨st1, G1, h1, h2, h3, h4⟩ := hq
    have e := (Prod.mk.inj (Sum.inl.inj (Option.some.inj h1))).2
    subst e
    exact hQ a' w' ⟨G1, h2, h3, h4⟩ hd'
  | exit i => obtain ⟨st1, G1, h1, _⟩ := hq; exact absurd (Prod.mk.inj (Sum.inl.inj (Option.some.inj h1))).1 (by intro h; cases h)
  | ret => obtain ⟨st1, G1, h1, _⟩ := hq; exact absurd (Prod.mk.inj (Sum.inl.inj (Option.some.inj h1))).1 (by intro h; cases h)
  | panic ch => obtain ⟨x, v, G1, h', _, h1, _⟩ := hq; cases (Option.some.inj h1)
  | goto l => exact hq.elim
  | outgrown => exact hq.elim

/-- The region 'move; compare with nil'. -/
theorem region_eqNil (ok : E.Ok) {o0 o1 : Oper} {id : Nat} (h0 : ops[0]? = some o0) (h1 : ops[1]? = some o1) (h2 : ops.size = 2) {G0 : Gh} {w0 : World} {st1 : St} {Q : Exit → Act → World → Prop}
    (hs : stepD E H nt noCall ops 0 o0 st = some (.inl st1)) {T e T' : TypeId} {u t : Nat} (ho : o1.op = .binOp .eql T (.tmp u) (.const (.slice none 0 0)) T') (hg : o1.guard = none) (hdt : o1.dst = some t) (hu : E.P.underlying T = some (.slice e))
    (ht : t < nt) (hpb : st1.pb t = false) {n : Nat} {es : List (List AV)} (hsu : st1.s u = .c (.v (.sl n es))) (hat : AtSt d nt G0 w0 st a w) (hd : a.defers = D)
    (hQ : ∀ b, (b = true → es = []) → ∀ a' w', AtSt d nt G0 w0 { s := upd st1.s t (.c (.v (.lit (.bool b)))), h := st1.h, pb := st1.pb } a' w' → a'.defers = D → Q .normal a' w') : (Code.region id ops false).wpIn (FF ro) nn E.P Q a w := by
  refine wpIn_region ?_
  rw [h2, show List.range 2 = [0, 1] from rfl, wpOpsIn_cons]
  obtain ⟨G, r, hnt, hf⟩ := hat
  have hstep := step_ok (ro := ro) (nn := nn) ok (noCall_ok _) h0 hnt r hs
  refine hstep.1 st1 rfl _ _ fun a1 G1 w1 r1 hnt1 hd1 hf1 => ?_
  rw [wpOpsIn_cons]
  refine step_eqNil h1 ho hg hdt hu hnt1 r1 ht hpb hsu _ _ fun b hb a2 r2 hnt2 hd2 => ?_
  exact hQ b hb a2 w1 ⟨G1, r2, hnt2, hf.trans hf1⟩ (hd2.trans (hd1.trans hd))
end
end Go.Sh

/- What a law's arguments are: plain values, typed, and how much of them there is. -/
namespace Go.Sh
set_option linter.unusedVariables false
set_option linter.unusedSimpArgs false
open Go Go.WideShapes Go.RowKit
section
variable {E : Env} {H : Type} {enc : TypeId × Value → H} {W : World} {ts : List Nat} {base : Nat}

/-- An argument of one cell. -/
theorem open_one (ok : E.Ok) (hts : flatAll E ts = true) {t : TypeId} {i : TI} (hi : E.ty t = some i) (hm : memN ts t = true) (h1 : i.size = 1) {v : Value} (hv : v.cells = #[v]) {d : DataW H} {ps : List MemPlace}
    (h : DataW.Trod enc E.P W 0 (fun _ => true) true t v d ps) : ∃ a, RepA (sealAll W).S W [] a v ∧ TypedC E t [a] ∧ volC [a] ≤ dsz d := by
  obtain ⟨fuel, hf⟩ := h
  obtain ⟨as, k1, k2, k3, k4⟩ := open_trod ok hts fuel t v.cells.toList d ps i hf hi hm
  rw [hv] at k1
  cases k1 with
  | cons x _ r => cases r; exact ⟨_, x, k2, k4⟩

/-- An argument that is a struct. -/
theorem open_agg (ok : E.Ok) (hts : flatAll E ts = true) {t : TypeId} {i : TI} (hi : E.ty t = some i) (hm : memN ts t = true) {cs : Array Value} {d : DataW H} {ps : List MemPlace}
    (h : DataW.Trod enc E.P W 0 (fun _ => true) true t (.agg cs) d ps) : ∃ as, RepA (sealAll W).S W [] (.agg as) (.agg cs) ∧ TypedC E t as ∧ volC as ≤ dsz d := by
  obtain ⟨fuel, hf⟩ := h
  obtain ⟨as, k1, k2, k3, k4⟩ := open_trod ok hts fuel t (Value.agg cs).cells.toList d ps i hf hi hm
  exact ⟨as, .agg k1, k2, k4⟩

theorem calls_true' (ok : E.Ok) (hp : PrimsOk E) (hc : PrimsC E) {f : Nat} {args : List AV} {argv : Array Value} (hg : GlobsOk (sealAll W) W) (hr : RepL (sealAll W).S W [] args argv.toList) {h' : Heap} (he : evw E f args [] = some (.ret (.lit (.bool true)), h')) :
    Calls E.P f argv W (fun e W' => e = .returned (.bool true) ∧ Below W.heap.size W W') := by
  obtain ⟨k, hk⟩ := (evw_iff hc).1 he
  exact calls_true ok hp hg hr hk
end
end Go.Sh
