/- ShC: part of the proof: a shadow of the machine that is proved sound, and what the functions of this seat compute. Conditions: none. -/
import Derived.Test.YtbmgmgeliokalaaShB
import Derived.Lib.SlicesCompact
import Derived.Sort.EncStr
import Derived.Shelf.Slices.In.SortAlone
import Derived.Shelf.Slices.In.SortNone
import Derived.Shelf.Slices.In.CompactS
import Derived.Sort.OwnSorted
import Derived.Sort.EveryDepth
set_option linter.unusedSimpArgs false
/- A function that looks at none of the heap: what it does to memory of its own is not seen from outside. A call by hand. -/
namespace Go.Sh
open Go
set_option linter.unusedVariables false
set_option linter.unusedSimpArgs false

section
variable {S S' : Nat → Nat} {w : World} {μ μ' : List Nat}
mutual
theorem RepA.free (hS : ∀ b, S b ≤ S' b) {a : AV} {v : Value} : RepA S w μ a v → AV.lt 0 a → RepA S' w μ' a v
  | .lit h, _ => .lit h
  | .agg h, hl => .agg (RepC.free hS h (by cases hl with | agg h => exact h))
  | .tup h, hl => .tup (RepL.free hS h (by cases hl with | tup h => exact h))
  | .slN n, _ => .slN n
  | .slE n a, _ => .slE n a
  | .sl hc hr hv hs hn, hl => .sl hc hr (RepC.free hS hv (by
      cases hl with
      | sl _ h => intro a ha; obtain ⟨x, hx, hax⟩ := List.mem_flatten.1 ha; exact h x hx a hax)) (Nat.le_trans hs (hS _)) hn
  | .hp off h, hl => absurd hl (fun hl => by cases hl with | hp _ h => exact absurd h (Nat.not_lt_zero _))
  | .ro hr hv hs, hl => .ro hr (RepC.free hS hv (by cases hl with | ro h => exact h)) (Nat.le_trans hs (hS _))
  | .fn h h', hl => .fn (RepL.free hS h (by cases hl with | fn _ h _ => exact h)) (RepL.free hS h' (by cases hl with | fn _ _ h => exact h))
  | .ifc h, hl => .ifc (RepA.free hS h (by cases hl with | ifc _ h => exact h))
  | .dead v, _ => .dead v
theorem RepL.free (hS : ∀ b, S b ≤ S' b) {l : List AV} {m : List Value} : RepL S w μ l m → (∀ a ∈ l, AV.lt 0 a) → RepL S' w μ' l m
  | .nil, _ => .nil
  | .cons h t, hl => .cons (RepA.free hS h (hl _ List.mem_cons_self)) (RepL.free hS t fun a ha => hl a (List.mem_cons_of_mem _ ha))
theorem RepC.free (hS : ∀ b, S b ≤ S' b) {l : List AV} {m : List Value} : RepC S w μ l m → (∀ a ∈ l, AV.lt 0 a) → RepC S' w μ' l m
  | .nil, _ => .nil
  | .cons h o t, hl => .cons (RepA.free hS h (hl _ List.mem_cons_self)) o (RepC.free hS t fun a ha => hl a (List.mem_cons_of_mem _ ha))
end
end

/-- What is new, sealed. -/
def fresh (w w' : World) : Nat → Nat := fun b => if b < w.heap.size then 0 else (sealAll w').S b

/-- What a call ends in that has turned nothing that was there, and hands out what is new. -/
def LoneEnd (w : World) (out : AV) (e : Ending) (w' : World) : Prop :=
  ∃ v, e = .returned v ∧ w'.os = w.os ∧ w'.tape = w.tape ∧ w'.output = w.output ∧ w.heap.size ≤ w'.heap.size ∧ (∀ b, b < w.heap.size → w'.heap[b]? = w.heap[b]?) ∧ RepA (fresh w w') w' [] out v

theorem within_le {G : Gh} {w : World} (h : Within G w) (b : Nat) : G.S b ≤ (sealAll w).S b := by
  by_cases h0 : G.S b = 0
  · omega
  · obtain ⟨arr, T, fz, h1, h2⟩ := h b h0
    show _ ≤ match w.heap[b]? with | some (.cells arr _ _) => arr.size | _ => 0
    rw [h1]; exact h2
theorem within_lt {G : Gh} {w : World} (h : Within G w) {b : Nat} (hb : w.heap.size ≤ b) : G.S b = 0 := by
  by_cases h0 : G.S b = 0
  · exact h0
  · obtain ⟨arr, T, fz, h1, h2⟩ := h b h0
    have := lt_of_heap h1
    omega

theorem cell_keep {G G' : Gh} {w w' : World} (x : Ext G.S w G.μ G'.S w' G'.μ) (hs : ∀ b, b < w.heap.size → w'.heap[b]? = w.heap[b]? ∧ G'.S b = G.S b ∧ G'.O b = G.O b) {p : Owner} {c : Cell} {v : Value} (h : RepCell G w p c v) : RepCell G' w' p c v := by
  cases c with
  | v a => exact RepA.mono x h
  | nil n => exact h
  | own n es =>
    rcases h with h | ⟨b, cap, arr, T, hv, ho, hh, ha, hc, hS, hr, hn⟩
    · exact .inl h
    · obtain ⟨h1, h2, h3⟩ := hs b (lt_of_heap hh)
      exact .inr ⟨b, cap, arr, T, hv, h3.trans ho, h1.trans hh, ha, hc, h2.trans hS, RepC.mono x hr, hn⟩
theorem heap_keep {G G' : Gh} {w w' : World} {h : Heap} (x : Ext G.S w G.μ G'.S w' G'.μ) (hm : G'.μ = G.μ) (hs : ∀ b, b < w.heap.size → w'.heap[b]? = w.heap[b]? ∧ G'.S b = G.S b ∧ G'.O b = G.O b) (hh : RepHeap G w h) : RepHeap G' w' h := by
  obtain ⟨h1, h2⟩ := hh
  refine ⟨by rw [hm]; exact h1, fun i cs hi => ?_⟩
  obtain ⟨b, arr, T, k1, k2, k3, k4, k5⟩ := h2 i cs hi
  obtain ⟨j1, j2, j3⟩ := hs b (lt_of_heap k3)
  refine ⟨b, arr, T, by rw [hm]; exact k1, j3.trans k2, j1.trans k3, j2.trans k4, k5.1, fun j c hj => ?_⟩
  obtain ⟨v, e1, e2, e3⟩ := k5.2 j c hj
  exact ⟨v, e1, cell_keep x hs e2, e3⟩

/-- A FUNCTION BY ITSELF: whoever calls it. -/
theorem lone {P : Program} {f : Nat} {args : List AV} {out : AV} (hc : Callable P f) (ha : ∀ a ∈ args, AV.lt 0 a) (ho : AV.lt 0 out)
    (h : ∀ w (argv : Array Value), RepL (sealAll w).S w [] args argv.toList → Calls P f argv w (LoneEnd w out)) (hh : Heap) : Ends P f args hh (.ret out) hh := by
  refine ⟨hc, fun d G w argv hr hhp hw => ?_⟩
  refine (h w argv (RepL.free (fun b => within_le hw b) hr ha)).mono fun e w' hq => ?_
  obtain ⟨v, rfl, q1, q2, q3, q4, q5, q6⟩ := hq
  have key : ∀ b, b < w.heap.size → w'.heap[b]? = w.heap[b]? ∧ (fun b => if b < w.heap.size then G.S b else (sealAll w').S b) b = G.S b ∧ G.O b = G.O b := fun b hb => ⟨q5 b hb, if_pos hb, rfl⟩
  have hx : Ext G.S w G.μ (fun b => if b < w.heap.size then G.S b else (sealAll w').S b) w' G.μ := by
    refine ⟨fun b => ?_, fun b o m vals hs hr => ?_, fun _ _ h => h⟩
    · show _ ≤ if _ then _ else _
      split
      · exact Nat.le_refl _
      · rename_i hb; rw [within_lt hw (by omega)]; exact Nat.zero_le _
    · by_cases hb : b < w.heap.size
      · rw [row_of_same (q5 b hb)]; exact hr
      · exfalso
        unfold row? at hr
        rw [Array.getElem?_eq_none (by omega)] at hr
        cases hr
  refine ⟨⟨fun b => if b < w.heap.size then G.S b else (sealAll w').S b, G.O, G.μ⟩, ⟨q1, q2, q3, q4, hx, fun b hb _ => key b hb⟩, heap_keep (G' := ⟨_, G.O, G.μ⟩) hx rfl key hhp, ?_, ?_⟩
  · intro b hb
    have hb : (if b < w.heap.size then G.S b else (sealAll w').S b) ≠ 0 := hb
    by_cases hlt : b < w.heap.size
    · rw [if_pos hlt] at hb
      obtain ⟨arr, T, fz, h1, h2⟩ := hw b hb
      exact ⟨arr, T, fz, (q5 b hlt).trans h1, by show (if _ then _ else _) ≤ _; rw [if_pos hlt]; exact h2⟩
    · rw [if_neg hlt] at hb
      obtain ⟨arr, T, fz, h1, h2⟩ := within_all w' b hb
      exact ⟨arr, T, fz, h1, by show (if _ then _ else _) ≤ _; rw [if_neg hlt]; exact h2⟩
  · refine RepA.free (fun b => ?_) q6 ho
    show fresh w w' b ≤ if _ then _ else _
    unfold fresh
    split
    · exact Nat.zero_le _
    · exact Nat.le_refl _

section
variable {P : Program} {w : World} {a : Act} {o : Oper} {ops : Array Oper} {nn : Nat}
/-- A call by hand. -/
theorem step_callX {i : Nat} (hi : ops[i]? = some o) (hg : o.guard = none) {c : Call} (ho : o.op = .call c) {f : Nat} (hb : c.callee = .value (.func f)) (hc : Callable P f) {R : Ending → World → Prop} (hcl : Calls P f (c.args.map a.eval) w R)
    {K : Act → World → Prop} {Q : Exit → Act → World → Prop} (hR : ∀ e w', R e w' → ∃ v, e = .returned v ∧ K (a.put o.dst v) w') : wpOpIn (FF none) nn P ops Q i K a w := by
  unfold wpOpIn
  rw [hi]
  simp only [Region.wanted, hg, if_true]
  refine wp_in none (fun d hd => by rw [ho] at hd; cases hd) ?_
  unfold Oper.wp
  have hx : a.eval (.func f) = .func (.func f) #[] #[] := rfl
  rw [run_call P ho hb hx hc, Oper.upon_enter, Array.empty_append, Array.append_empty]
  refine hcl.mono fun e w1 he => ?_
  obtain ⟨v, rfl, hk⟩ := hR e w1 he
  exact hk
/-- An operation that yields a value and turns nothing. -/
theorem step_pureX {i : Nat} (hi : ops[i]? = some o) (hg : o.guard = none) (hnd : ∀ c, o.op ≠ .defer c) {v : Value} (hrun : (execOp a.eval o).run P w = .ok (.value v) w) {K : Act → World → Prop} {Q : Exit → Act → World → Prop} (hK : K (a.put o.dst v) w) : wpOpIn (FF none) nn P ops Q i K a w := by
  unfold wpOpIn
  rw [hi]
  simp only [Region.wanted, hg, if_true]
  refine wp_in none hnd ?_
  unfold Oper.wp
  rw [hrun, Oper.upon_value]
  exact hK
end
end Go.Sh

/- Sorted and compacted: the list that rises, each once. No program, no memory. -/
namespace Go.Sh
open Go
set_option linter.unusedVariables false
set_option linter.unusedSimpArgs false
abbrev By := List UInt8

theorem by_total (x y : By) : x ≤ y ∨ y ≤ x := List.le_total x y
theorem by_trans {x y z : By} (h : x ≤ y) (k : y ≤ z) : x ≤ z := List.le_trans h k
theorem by_anti {x y : By} (h : x ≤ y) (k : y ≤ x) : x = y := List.le_antisymm h k
theorem by_lt_of {x y : By} (h : x ≤ y) (k : x ≠ y) : x < y := by
  rcases Decidable.em (x < y) with e | e
  · exact e
  · exact absurd (by_anti h (List.not_lt.1 e)) k
theorem by_le {x y : By} (h : x < y) : x ≤ y := List.le_of_lt h
theorem by_irrefl (x : By) : ¬ x < x := List.lt_irrefl x
theorem by_lt_trans {x y z : By} (h : x < y) (k : y < z) : x < z := List.lt_trans h k
theorem by_le_lt {x y z : By} (h : x ≤ y) (k : y < z) : x < z := by
  refine by_lt_of (by_trans h (by_le k)) fun e => ?_
  subst e
  exact absurd k (List.not_lt.2 h)

/-- A text, put in its place, once. -/
def putB : List By → By → List By
  | [], s => [s]
  | x :: r, s => bif decide (x < s) then x :: putB r s else bif decide (s < x) then s :: x :: r else x :: r
theorem putB_mem {s y : By} : ∀ {l : List By}, y ∈ putB l s ↔ y = s ∨ y ∈ l
  | [] => by rw [putB]; simp
  | x :: r => by
    rw [putB]
    by_cases h1 : x < s
    · rw [decide_eq_true h1, cond_true, List.mem_cons, putB_mem, List.mem_cons]
      constructor
      · rintro (e | e | e) <;> simp [e]
      · rintro (e | e | e) <;> simp [e]
    · rw [decide_eq_false h1, cond_false]
      by_cases h2 : s < x
      · rw [decide_eq_true h2, cond_true]; simp
      · rw [decide_eq_false h2, cond_false]
        have : x = s := by_anti (List.not_lt.1 h2) (List.not_lt.1 h1)
        subst this
        simp
theorem putB_rise {s : By} : ∀ {l : List By}, l.Pairwise (· < ·) → (putB l s).Pairwise (· < ·)
  | [], _ => by rw [putB]; exact List.pairwise_singleton _ _
  | x :: r, h => by
    have hc := List.pairwise_cons.1 h
    rw [putB]
    by_cases h1 : x < s
    · rw [decide_eq_true h1, cond_true]
      refine List.pairwise_cons.2 ⟨fun y hy => ?_, putB_rise hc.2⟩
      rcases putB_mem.1 hy with e | e
      · rw [e]; exact h1
      · exact hc.1 y e
    · rw [decide_eq_false h1, cond_false]
      by_cases h2 : s < x
      · rw [decide_eq_true h2, cond_true]
        refine List.pairwise_cons.2 ⟨fun y hy => ?_, h⟩
        rcases List.mem_cons.1 hy with e | e
        · rw [e]; exact h2
        · exact by_lt_trans h2 (hc.1 y e)
      · rw [decide_eq_false h2, cond_false]; exact h
def riseB (zs : List By) : List By := zs.foldl putB []
theorem foldB_mem {y : By} : ∀ (zs l : List By), y ∈ zs.foldl putB l ↔ y ∈ zs ∨ y ∈ l
  | [], l => by simp
  | z :: zs, l => by
    rw [List.foldl_cons, foldB_mem zs, putB_mem, List.mem_cons]
    constructor
    · rintro (e | e | e) <;> simp [e]
    · rintro ((e | e) | e) <;> simp [e]
theorem foldB_rise : ∀ (zs l : List By), l.Pairwise (· < ·) → (zs.foldl putB l).Pairwise (· < ·)
  | [], l, h => h
  | z :: zs, l, h => by rw [List.foldl_cons]; exact foldB_rise zs _ (putB_rise h)
theorem riseB_mem {zs : List By} {y : By} : y ∈ riseB zs ↔ y ∈ zs := by unfold riseB; rw [foldB_mem]; simp
theorem riseB_rise (zs : List By) : (riseB zs).Pairwise (· < ·) := foldB_rise zs [] List.Pairwise.nil

/-- Two that rise and have the same are the same. -/
theorem rise_same : ∀ (l m : List By), l.Pairwise (· < ·) → m.Pairwise (· < ·) → (∀ y, y ∈ l ↔ y ∈ m) → l = m
  | [], [], _, _, _ => rfl
  | [], y :: m, _, _, h => absurd ((h y).2 List.mem_cons_self) (by simp)
  | x :: l, [], _, _, h => absurd ((h x).1 List.mem_cons_self) (by simp)
  | x :: l, y :: m, hl, hm, h => by
    have cl := List.pairwise_cons.1 hl
    have cm := List.pairwise_cons.1 hm
    have e : x = y := by
      rcases List.mem_cons.1 ((h x).1 List.mem_cons_self) with e | e
      · exact e
      · rcases List.mem_cons.1 ((h y).2 List.mem_cons_self) with e' | e'
        · exact e'.symm
        · exact absurd (by_lt_trans (cm.1 x e) (cl.1 y e')) (by_irrefl _)
    subst e
    rw [rise_same l m cl.2 cm.2 fun z => ?_]
    constructor
    · intro hz
      rcases List.mem_cons.1 ((h z).1 (List.mem_cons_of_mem _ hz)) with e | e
      · subst e; exact absurd (cl.1 z hz) (by_irrefl _)
      · exact e
    · intro hz
      rcases List.mem_cons.1 ((h z).2 (List.mem_cons_of_mem _ hz)) with e | e
      · subst e; exact absurd (cm.1 z hz) (by_irrefl _)
      · exact e

/- what slices.Compact leaves of a sorted list -/
theorem compact_spec (d : Array By) (hs : ∀ i j, i ≤ j → j < d.size → d[i]! ≤ d[j]!) : ∀ m, m ≤ d.size → (∀ x ∈ Lib.compactUpTo d m, ∃ j, j < m ∧ x = d[j]!) ∧ (∀ j, j < m → d[j]! ∈ Lib.compactUpTo d m) ∧ (Lib.compactUpTo d m).Pairwise (· < ·)
  | 0, _ => ⟨fun x hx => by simp [Lib.compactUpTo] at hx, fun j hj => by omega, by simp [Lib.compactUpTo]⟩
  | m + 1, hm => by
    obtain ⟨h1, h2, h3⟩ := compact_spec d hs m (by omega)
    rw [Lib.compactUpTo_succ]
    cases hk : Lib.keeps d m with
    | true =>
      rw [if_pos rfl]
      refine ⟨fun x hx => ?_, fun j hj => ?_, ?_⟩
      · rcases List.mem_append.1 hx with e | e
        · obtain ⟨j, a, b⟩ := h1 x e; exact ⟨j, by omega, b⟩
        · rw [List.mem_singleton] at e; exact ⟨m, by omega, e⟩
      · rcases Nat.lt_succ_iff_lt_or_eq.1 hj with e | e
        · exact List.mem_append.2 (.inl (h2 j e))
        · rw [e]; exact List.mem_append.2 (.inr List.mem_cons_self)
      · refine List.pairwise_append.2 ⟨h3, List.pairwise_singleton _ _, fun x hx y hy => ?_⟩
        rw [List.mem_singleton] at hy; subst hy
        obtain ⟨j, a, b⟩ := h1 x hx
        subst b
        have hne : d[m]! ≠ d[m - 1]! := by
          unfold Lib.keeps at hk
          rw [decide_eq_true_eq] at hk
          rcases hk with e | e
          · omega
          · exact e
        exact by_le_lt (hs j (m - 1) (by omega) (by omega)) (by_lt_of (hs (m - 1) m (by omega) (by omega)) (Ne.symm hne))
    | false =>
      rw [if_neg (by simp), List.append_nil]
      refine ⟨fun x hx => ?_, fun j hj => ?_, h3⟩
      · obtain ⟨j, a, b⟩ := h1 x hx; exact ⟨j, by omega, b⟩
      · rcases Nat.lt_succ_iff_lt_or_eq.1 hj with e | e
        · exact h2 j e
        · subst e
          unfold Lib.keeps at hk
          rw [decide_eq_false_iff_not] at hk
          have h0 : j ≠ 0 := fun e => hk (.inl e)
          have he : d[j]! = d[j - 1]! := Decidable.byContradiction fun e => hk (.inr e)
          rw [he]; exact h2 (j - 1) (by omega)
/-- SORTED, THEN COMPACTED. -/
theorem sorted_compact (zs : List By) : Lib.compact (zs.mergeSort fun x y => decide (x ≤ y)) = riseB zs := by
  obtain ⟨ss, hss⟩ : ∃ ss, ss = zs.mergeSort fun x y => decide (x ≤ y) := ⟨_, rfl⟩
  have hp : ss.Pairwise fun x y => decide (x ≤ y) = true := by
    rw [hss]
    exact List.pairwise_mergeSort (le := fun x y => decide (x ≤ y)) (fun a b c h k => by simp only [decide_eq_true_eq] at *; exact by_trans h k) (fun a b => by simp only [Bool.or_eq_true, decide_eq_true_eq]; exact by_total a b) zs
  have hm : ∀ y, y ∈ ss ↔ y ∈ zs := fun y => by rw [hss]; exact (List.mergeSort_perm zs _).mem_iff
  rw [← hss]
  have hs : ∀ i j, i ≤ j → j < ss.toArray.size → ss.toArray[i]! ≤ ss.toArray[j]! := by
    intro i j hij hj
    have hj : j < ss.length := by simpa using hj
    rw [getElem!_pos ss.toArray i (by simpa using (by omega : i < ss.length)), getElem!_pos ss.toArray j (by simpa using hj)]
    simp only [List.getElem_toArray]
    rcases Nat.lt_or_ge i j with h | h
    · have := List.pairwise_iff_getElem.1 hp i j (by omega) hj h
      simpa using this
    · have : i = j := by omega
      subst this; exact List.le_refl _
  obtain ⟨h1, h2, h3⟩ := compact_spec ss.toArray hs ss.length (by simp)
  refine rise_same _ _ h3 (riseB_rise zs) fun y => ?_
  rw [riseB_mem, ← hm]
  constructor
  · intro h
    obtain ⟨j, a, b⟩ := h1 y h
    rw [b, getElem!_pos ss.toArray j (by simpa using a)]
    simp
  · intro h
    obtain ⟨j, a, b⟩ := List.mem_iff_getElem.1 h
    have := h2 j a
    rw [getElem!_pos ss.toArray j (by simpa using a)] at this
    rw [← b]
    show _ ∈ Lib.compactUpTo ss.toArray ss.length
    simpa using this
end Go.Sh

/- Texts of one's own, sorted and compacted by the library. -/
namespace Go.Sh
open Go Go.Proofs Go.Shelf
set_option linter.unusedVariables false
set_option linter.unusedSimpArgs false

abbrev toB (s : ByteArray) : By := s.data.toList
abbrev ofB (z : By) : ByteArray := ⟨z.toArray⟩
theorem ofB_toB (s : ByteArray) : ofB (toB s) = s := by cases s; simp [ofB, toB]
theorem toB_ofB (z : By) : toB (ofB z) = z := by simp [ofB, toB]
theorem map_ofB (l : List ByteArray) : (l.map toB).map ofB = l := by
  rw [List.map_map]
  have : (fun s => ofB (toB s)) = id := funext ofB_toB
  show l.map (fun s => ofB (toB s)) = l
  rw [this, List.map_id]
theorem map_toB (l : List By) : (l.map ofB).map toB = l := by
  rw [List.map_map]
  have : (fun s => toB (ofB s)) = id := funext toB_ofB
  show l.map (fun s => toB (ofB s)) = l
  rw [this, List.map_id]
theorem map_str (l : List ByteArray) : l.map Value.string = (l.map toB).map encStr := by
  rw [List.map_map]
  refine List.map_congr_left fun s _ => ?_
  show Value.string s = Value.string _
  congr 1

/-- A slice of texts that is one's own. -/
def OwnVal (w : World) (x : Value) (l : List ByteArray) : Prop :=
  (x = .slice none 0 0 ∧ l = []) ∨ ∃ b cap arr T, x = .slice (some ⟨b, 0, none⟩) l.length cap ∧ w.heap[b]? = some (.cells arr T (0, 0)) ∧ arr.size = cap ∧ l.length ≤ cap ∧ arr.toList.take l.length = l.map Value.string
def blockV : Value → Option Nat
  | .slice (some a) _ _ => some a.block
  | _ => none
/-- Nothing turned but this block, and new ones. -/
structure Turned (w w' : World) (p : Option Nat) : Prop where
  os : w'.os = w.os
  tape : w'.tape = w.tape
  output : w'.output = w.output
  size : w.heap.size ≤ w'.heap.size
  same : ∀ k, k < w.heap.size → p ≠ some k → w'.heap[k]? = w.heap[k]?
theorem Turned.trans {w w1 w2 : World} {p : Option Nat} (h : Turned w w1 p) (k : Turned w1 w2 p) : Turned w w2 p :=
  ⟨k.os.trans h.os, k.tape.trans h.tape, k.output.trans h.output, Nat.le_trans h.size k.size, fun j hj hp => (k.same j (Nat.lt_of_lt_of_le hj h.size) hp).trans (h.same j hj hp)⟩
theorem Turned.refl (w : World) (p : Option Nat) : Turned w w p := ⟨rfl, rfl, rfl, Nat.le_refl _, fun _ _ _ => rfl⟩

def sortL (l : List ByteArray) : List ByteArray := ((l.map toB).mergeSort fun x y => decide (x ≤ y)).map ofB
def compactL (l : List ByteArray) : List ByteArray := (Lib.compact (l.map toB)).map ofB
/-- The list that rises, each once. -/
def riseL (l : List ByteArray) : List ByteArray := (riseB (l.map toB)).map ofB
theorem compact_sort (l : List ByteArray) : compactL (sortL l) = riseL l := by
  unfold compactL sortL riseL
  rw [map_toB, sorted_compact]
theorem sortL_len (l : List ByteArray) : (sortL l).length = l.length := by unfold sortL; rw [List.length_map, List.length_mergeSort, List.length_map]
theorem sortL_nil : sortL [] = [] := List.length_eq_zero_iff.1 (sortL_len [])
theorem compact_le (zs : List By) : (Lib.compact zs).length ≤ zs.length := by
  unfold Lib.compact Lib.compactUpTo
  rw [List.length_map]
  exact Nat.le_trans (List.length_filter_le _ _) (by simp)
theorem heap_putRow {w : World} {g q : Nat} {cur : Array Value} {e : TypeId} {fr : Nat × Nat} (d : Array By) (hb : w.heap[g]? = some (.cells cur e fr)) : (Sort.putRow encStr (Sort.ahead w q) g 0 d).heap[g]? = some (.cells (Sort.putCells encStr 0 d cur) e fr) := by
  have := heap_sorted (n := q) (os := #[]) d hb
  simpa [Sort.grow] using this
theorem turned_sorted {w : World} {g n : Nat} {os : Array Obj} (d : Array By) : Turned w (Sort.grow (Sort.putRow encStr (Sort.ahead w n) g 0 d) os) (some g) := by
  obtain ⟨h1, h2, h3, h4, h5⟩ := grownBy_sorted (w := w) (g := g) (n := n) (os := os) d
  exact ⟨h1, h2, h3, h4, fun k hk hp => h5 k hk (fun e => hp (by rw [e]))⟩

variable {P : Program} {ρ : Ren}
/-- slices.Sort of texts of one's own. -/
theorem sortC (L : Lays.n190 P ρ) {w : World} {x : Value} {l : List ByteArray} (h : OwnVal w x l) (hl : l.length < 4611686018427387904) :
    Calls P (ρ.f 190) #[x] w fun e w' => e = .returned (.tuple #[]) ∧ OwnVal w' x (sortL l) ∧ Turned w w' (blockV x) := by
  rcases h with ⟨rfl, rfl⟩ | ⟨b, cap, arr, T, rfl, hb, ha, hc, ht⟩
  · refine (calls_of_every_depth fun D => AnyS.slices_Sort_string_none_alone L D none 0 w).mono ?_
    rintro e w' ⟨rfl, rfl⟩
    exact ⟨rfl, .inl ⟨rfl, sortL_nil⟩, .refl _ _⟩
  · have hH : Sort.Holds encStr w b 0 (l.map toB).toArray := holds_of_block hb (by rw [List.length_map, ht, map_str])
    have := calls_of_every_depth fun D => AnyS.slices_Sort_string_alone L D b 0 cap (l.map toB) w hH (lt_of_heap hb) (by rw [List.length_map]; exact hl)
    rw [List.length_map] at this
    refine this.mono ?_
    rintro e w' ⟨rfl, n, os, rfl⟩
    refine ⟨rfl, .inr ⟨b, cap, _, T, by rw [sortL_len], heap_sorted _ hb, by simp [Sort.putCells, ha], by rw [sortL_len]; exact hc, ?_⟩, turned_sorted _⟩
    have hlen : ((l.map toB).mergeSort fun x y => decide (x ≤ y)).length = l.length := by rw [List.length_mergeSort, List.length_map]
    have := take_putCells arr ((l.map toB).mergeSort fun x y => decide (x ≤ y)) (by rw [hlen, ha]; exact hc)
    rw [hlen] at this
    rw [sortL_len, this, map_str]
    unfold sortL
    rw [map_toB]

/-- slices.Compact of texts of one's own. -/
theorem compactC (L : Lays.n194 P ρ) {w : World} {x : Value} {l : List ByteArray} (h : OwnVal w x l) (hl : l.length < 4611686018427387904) :
    Calls P (ρ.f 194) #[x] w fun e w' => ∃ v, e = .returned v ∧ OwnVal w' v (compactL l) ∧ (∀ k, blockV v = some k → blockV x = some k) ∧ Turned w w' (blockV x) := by
  rcases h with ⟨rfl, rfl⟩ | ⟨b, cap, arr, T, rfl, hb, ha, hc, ht⟩
  · refine (calls_of_every_depth fun D => AnyS.slices_Compact_string_empty_in L D none 0 w).mono ?_
    rintro e w' ⟨rfl, rfl⟩
    exact ⟨_, rfl, .inl ⟨rfl, rfl⟩, fun _ h => h, .refl _ _⟩
  · have hH : Sort.Holds encStr w b 0 (l.map toB).toArray := holds_of_block hb (by rw [List.length_map, ht, map_str])
    have := calls_of_every_depth fun D => AnyS.slices_Compact_string_in L D b 0 cap (l.map toB) w hH (by rw [List.length_map]; omega) (by rw [List.length_map]; exact hc)
    rw [List.length_map] at this
    refine this.mono ?_
    rintro e w' ⟨rfl, q, rfl⟩
    have hle : (Lib.compact (l.map toB)).length ≤ l.length := by have := compact_le (l.map toB); rwa [List.length_map] at this
    have hcl : (compactL l).length = (Lib.compact (l.map toB)).length := by unfold compactL; rw [List.length_map]
    refine ⟨_, rfl, .inr ⟨b, cap, _, T, by rw [hcl], heap_putRow _ hb, by simp [Sort.putCells, ha], by rw [hcl]; omega, ?_⟩, fun _ h => h, ?_⟩
    · have := take_putCells arr (Lib.compact (l.map toB) ++ List.replicate (l.length - (Lib.compact (l.map toB)).length) []) (by simp; omega)
      have h2 := congrArg (List.take (Lib.compact (l.map toB)).length) this
      rw [List.take_take, List.map_append, List.take_left' (by rw [List.length_map]), Nat.min_eq_left (by simp)] at h2
      rw [hcl, h2, map_str]
      unfold compactL
      rw [map_toB]
    · have := turned_sorted (w := w) (g := b) (n := q) (os := #[]) (Lib.compact (l.map toB) ++ List.replicate (l.length - (Lib.compact (l.map toB)).length) []).toArray
      have e : ∀ W : World, Sort.grow W #[] = W := fun W => by unfold Sort.grow; rw [Array.append_empty]
      rw [e] at this
      exact this
end Go.Sh

/- What a function by itself hands out: texts of its own; a range over a function with a tail by hand. -/
namespace Go.Sh
open Go
set_option linter.unusedVariables false
set_option linter.unusedSimpArgs false

theorem flat_str (l : List ByteArray) : (l.map fun s => [AV.lit (.string s)]).flatten = l.map fun s => AV.lit (.string s) := by
  induction l with
  | nil => rfl
  | cons x l ih => rw [List.map_cons, List.flatten_cons, ih]; rfl
theorem rep_strs {S : Nat → Nat} {w : World} {μ : List Nat} : ∀ {l : List ByteArray} {m : List Value}, RepC S w μ (l.map fun s => AV.lit (.string s)) m → m = l.map Value.string
  | [], m, h => by cases h; rfl
  | x :: l, m, h => by
    cases h with
    | cons h o t => cases h with | lit _ => rw [rep_strs t]; rfl
theorem strs_rep {S : Nat → Nat} {w : World} {μ : List Nat} : ∀ (l : List ByteArray), RepC S w μ (l.map fun s => AV.lit (.string s)) (l.map Value.string)
  | [] => .nil
  | x :: l => .cons (.lit rfl) rfl (strs_rep l)

section
variable {P : Program} {d : Nat} {G : Gh} {w w0 : World} {st : St} {a : Act} {o : Oper}

theorem old_none {b : Nat} (f : Fr d (sealAll w0) w0 G w) (hb : b < w0.heap.size) : G.O b = .none := (f.same b hb rfl).2.2

/-- What lies in the heap's cell of one's own texts. -/
theorem own_out (f : Fr d (sealAll w0) w0 G w) {tmps : Array Value} (r : RepSt d G w st tmps) {t i : Nat} (ht : st.s t = .c (.v (.hp i 0))) {l : List ByteArray} (hi : st.h[i]? = some [.own 1 (l.map fun s => [AV.lit (.string s)])]) :
    ∃ bo arr T x, tmps.getD t undef = .pointer (some ⟨bo, 0, none⟩) ∧ w0.heap.size ≤ bo ∧ w.heap[bo]? = some (.cells arr T (0, 0)) ∧ arr[0]? = some x ∧ OwnVal w x l ∧ ∀ b, blockV x = some b → w0.heap.size ≤ b ∧ b ≠ bo := by
  have hs := r.slot t
  rw [ht] at hs
  obtain ⟨bo, arr, T, h1, h2, h3, h4, h5, h6⟩ := heap_get (b := 0) r.heap hs hi
  obtain ⟨x, e1, e2, e3⟩ := h6.2 0 _ rfl
  refine ⟨bo, arr, T, x, h1, ?_, h4, e1, ?_⟩
  · rcases Nat.lt_or_ge bo w0.heap.size with hb | hb
    · rw [old_none f hb] at h3; cases h3
    · exact hb
  · rcases e2 with ⟨rfl, hl⟩ | ⟨b, cap, arr2, T2, rfl, k1, k2, k3, k4, k5, k6, k7⟩
    · refine ⟨.inl ⟨rfl, by simpa using hl⟩, fun b hb => by cases hb⟩
    · rw [flat_str] at k6
      refine ⟨.inr ⟨b, cap, arr2, T2, by rw [List.length_map], k2, by rw [k3, Nat.mul_one], by simpa using k4, ?_⟩, fun c hc => ?_⟩
      · have := rep_strs k6
        simpa using this
      · cases hc
        refine ⟨?_, fun e => ?_⟩
        · rcases Nat.lt_or_ge b w0.heap.size with hb | hb
          · rw [old_none f hb] at k1; cases k1
          · exact hb
        · subst e; rw [h3] at k1; cases k1

theorem lone_end2 (h1 : w.os = w0.os) (h2 : w.tape = w0.tape) (h3 : w.output = w0.output) (h4 : w0.heap.size ≤ w.heap.size) (h5 : ∀ b, b < w0.heap.size → w.heap[b]? = w0.heap[b]?) {w' : World} {p : Option Nat} (t : Turned w w' p) (hp : ∀ b, p = some b → w0.heap.size ≤ b) {v : Value} {m : List ByteArray} (hv : OwnVal w' v m) (hb : ∀ b, blockV v = some b → w0.heap.size ≤ b) :
    LoneEnd w0 (.sl 1 (m.map fun s => [AV.lit (.string s)])) (.returned v) w' := by
  refine ⟨v, rfl, t.os.trans h1, t.tape.trans h2, t.output.trans h3, Nat.le_trans h4 t.size, fun b hb => ?_, ?_⟩
  · rw [t.same b (Nat.lt_of_lt_of_le hb h4) (fun e => by have := hp b e; omega)]
    exact h5 b hb
  · rcases hv with ⟨rfl, rfl⟩ | ⟨b, cap, arr, T, rfl, q1, q2, q3, q4⟩
    · exact .slN 1
    · have hbb := hb b rfl
      have e : (m.map fun s => [AV.lit (.string s)]).flatten.length = m.length := by rw [flat_str, List.length_map]
      have hr := RepA.sl (S := fresh w0 w') (w := w') (μ := []) (n := 1) (es := m.map fun s => [AV.lit (.string s)]) (b := b) (o := 0) (cap := cap) (vals := m.map Value.string) (by rw [List.length_map]; exact q3)
        (by
          unfold row?
          rw [q1, e]
          simp only [Nat.zero_add]
          rw [if_pos (by omega), List.drop_zero, q4]) (by rw [flat_str]; exact strs_rep m)
        (by
          rw [e]
          unfold fresh
          rw [if_neg (by omega)]
          show 0 + m.length ≤ match w'.heap[b]? with | some (.cells arr _ _) => arr.size | _ => 0
          rw [q1]
          show 0 + m.length ≤ arr.size
          omega)
        (by intro x hx; obtain ⟨s, _, rfl⟩ := List.mem_map.1 hx; rfl)
      rw [List.length_map] at hr
      exact hr

theorem lone_end (f : Fr d (sealAll w0) w0 G w) {w' : World} {p : Option Nat} (t : Turned w w' p) (hp : ∀ b, p = some b → w0.heap.size ≤ b) {v : Value} {m : List ByteArray} (hv : OwnVal w' v m) (hb : ∀ b, blockV v = some b → w0.heap.size ≤ b) :
    LoneEnd w0 (.sl 1 (m.map fun s => [AV.lit (.string s)])) (.returned v) w' := lone_end2 f.os f.tape f.output f.size (fun b hb => (f.same b hb rfl).1) t hp hv hb

/-- A load of one cell. -/
theorem run_load1 {T : TypeId} {i : TI} (ht : TyOk P T i) (hagg : i.agg = false) {x : Operand} (ho : o.op = .load T x) {b off : Nat} (hx : a.eval x = .pointer (some ⟨b, off, none⟩)) {arr : Array Value} {Te : TypeId} {fz : Nat × Nat} (hh : w.heap[b]? = some (.cells arr Te fz)) {X : Value} (hX : arr[off]? = some X) :
    (execOp a.eval o).run P w = .ok (.value X) w := by
  have hc : w.cell? ⟨b, off, none⟩ = some X := by
    simp only [World.cell?, hh]
    simpa using hX
  unfold execOp
  rw [ho]
  simp only [hx, Sem.run_bind, Instr.loadAt, Instr.sureAddr, Sem.run_pure, Result.andThen_ok, loadVar, ht.isAgg w, hagg]
  simp [hc]
theorem run_assign {x : Operand} (ho : o.op = .assign x) : (execOp a.eval o).run P w = .ok (.value (a.eval x)) w := by unfold execOp; rw [ho]; rfl
end

section
variable {E : Env} {H : FHint} {call : Nat → List AV → Heap → R}
/-- A FUNCTION THAT RANGES OVER A FUNCTION, its rounds by their shadow, what follows by hand. -/
theorem range_fnT (ok : E.Ok) (hs : SoundC E.P call) {f : Nat} {fn : Func} (hfn : E.P.funcs[f]? = some fn) {n bi g p : Nat} {A A2 B assign body rest : Code} (hbody : fn.body = some (.seq A (.seq A2 (.seq (.seq B (.block bi (.rangeFunc (.tmp g) #[p] assign body))) rest))))
    {args : List AV} {h : Heap} (hle : args.length ≤ fn.ntmps) (LA : List Nat) {lA : List (Nat × Slot)} {hA : Heap} (kA : evC E H fn.ntmps call n A 0 { s := lkS (argSlots 0 args), h := h } (kL LA) kN = some (lA, hA))
    (L2 : List Nat) {l2 : List (Nat × Slot)} {hA2 : Heap} (kA2 : evC E H fn.ntmps call n A2 0 { s := lkS lA, h := hA } (kL L2) kN = some (l2, hA2))
    (LB : List Nat) {lB : List (Nat × Slot)} {hB : Heap} (kB : evC E H fn.ntmps call n B 0 { s := lkS l2, h := hA2 } (kL LB) kN = some (lB, hB)) {L : List (Nat × Slot)} (hL : (L.all fun p => freeS p.2) = true) (hp : p < fn.ntmps) {gf : Nat} {caps xs : List AV} (hg : lkS lB g = .c (.v (.fn gf [] caps)))
    (hsl : ∀ i, lkS L i = .dead ∨ lkS L i = lkS lB i) (hnp : (lB.all fun q => match q.2 with | .path _ _ => false | _ => true) = true) (it : IterC E.P gf caps xs hB) {h1 : Heap} (hfold : foldR (roundE E H fn.ntmps call n (lkS L) p assign body) xs hB = some (none, h1))
    {d : Nat} {G : Gh} {w : World} {argv : Array Value} (hr : RepL G.S w G.μ args argv.toList) (hh : RepHeap G w h) (hw : Within G w) {R : Ending → World → Prop}
    (tail : ∀ (D : Nat) (G3 : Gh) (w3 : World) (a3 : Act), w3.heap[D]? = some (.deferred (some [])) → w.heap.size ≤ D → RepSt d G3 w3 { s := lkS lB, h := h1 } a3.tmps → a3.tmps.size = fn.ntmps → Fr d G w G3 w3 → a3.defers = [{ target := .collected D, args := #[] }] →
      rest.wpIn (FF none) 0 E.P (bodyPostM (FF none) 0 E.P fn R) a3 w3) : Calls E.P f argv w R := by
  refine (callsIn_wide (n := 0)).1 ?_
  refine callsIn_of_wp_marks (F := FF none) hfn hbody trivial ?_
  have hal : argv.size = args.length := by simpa using hr.length.symm
  have hat : AtSt d fn.ntmps G w { s := lkS (argSlots 0 args), h := h } { tmps := argv ++ Array.replicate (fn.ntmps - argv.size) undef, defers := [] } w := by
    refine ⟨G, ⟨fun i => ?_, fun u t off hu => ?_, hh, hw⟩, by simp; omega, Fr.refl d G w⟩
    · rcases lkS_spec (argSlots 0 args) i with e | e
      · show RepSlot _ _ _ _ (lkS _ _) _
        rw [e]; trivial
      · refine argSlots_spec args 0 argv.toList hr (fun j x hj => ?_) _ e
        have hj' : j < argv.size := by simpa using (List.getElem?_eq_some_iff.1 hj).1
        rw [Nat.zero_add, Array.getD_eq_getD_getElem?, Array.getElem?_append_left hj', ← Array.getElem?_toList, hj]; rfl
    · exfalso
      have hu : lkS (argSlots 0 args) u = .path t off := hu
      have hno : ∀ (l : List AV) (k : Nat) (q : Nat × Slot), q ∈ argSlots k l → ∃ x, q.2 = .c (.v x) := by
        intro l
        induction l with
        | nil => intro k q hq; cases hq
        | cons x l ih =>
          intro k q hq
          rcases List.mem_cons.1 hq with e | e
          · exact ⟨x, by rw [e]⟩
          · exact ih _ q e
      rcases lkS_spec (argSlots 0 args) u with e | e
      · rw [e] at hu; cases hu
      · rw [hu] at e; obtain ⟨x, hx⟩ := hno _ _ _ e; cases hx
  refine wpIn_seq (seg_keep (H := H) ok hs LA kA hat rfl fun a1 w1 hat1 hd1 => ?_)
  refine wpIn_seq (seg_keep (H := H) ok hs L2 kA2 hat1 hd1 fun a1 w1 hat1 hd1 => ?_)
  refine wpIn_seq (wpIn_seq (seg_keep (H := H) ok hs LB kB hat1 hd1 fun a2 w2 hat2 hd2 => ?_))
  refine wpIn_block ?_
  have hnp' : ∀ i t off, lkS lB i ≠ .path t off := fun i t off e => by
    rcases lkS_spec lB i with e1 | e1
    · rw [e1] at e; cases e
    · rw [e] at e1
      have := List.all_eq_true.1 hnp _ e1
      cases this
  refine range_ok (H := H) (n := n) ok hs hL hp hg hsl it hfold hat2 hnp' fun D G3 w3 hge hO hD r3 n3 f3 => ?_
  exact tail D G3 w3 _ hD hge r3 n3 f3 (by show _ :: a2.defers = _; rw [hd2])
end
end Go.Sh

/- A function's run by its code, told as what a call of it ends in. -/
namespace Go.Sh
open Go
set_option linter.unusedVariables false
set_option linter.unusedSimpArgs false
section
variable {E : Env} {H : FHint} {call : Nat → List AV → Heap → R}
theorem argS {d : Nat} {G : Gh} {w : World} {args : List AV} {h : Heap} {argv : Array Value} {nt : Nat} (hr : RepL G.S w G.μ args argv.toList) (hh : RepHeap G w h) (hw : Within G w) (hle : args.length ≤ nt) :
    AtSt d nt G w { s := lkS (argSlots 0 args), h := h } { tmps := argv ++ Array.replicate (nt - argv.size) undef, defers := [] } w := by
  have hal : argv.size = args.length := by simpa using hr.length.symm
  refine ⟨G, ⟨fun i => ?_, fun u t off hu => ?_, hh, hw⟩, by simp; omega, Fr.refl d G w⟩
  · rcases lkS_spec (argSlots 0 args) i with e | e
    · show RepSlot _ _ _ _ (lkS _ _) _
      rw [e]; trivial
    · refine argSlots_spec args 0 argv.toList hr (fun j x hj => ?_) _ e
      have hj' : j < argv.size := by simpa using (List.getElem?_eq_some_iff.1 hj).1
      rw [Nat.zero_add, Array.getD_eq_getD_getElem?, Array.getElem?_append_left hj', ← Array.getElem?_toList, hj]; rfl
  · exfalso
    have hu : lkS (argSlots 0 args) u = .path t off := hu
    have hno : ∀ (l : List AV) (k : Nat) (q : Nat × Slot), q ∈ argSlots k l → ∃ x, q.2 = .c (.v x) := by
      intro l
      induction l with
      | nil => intro k q hq; cases hq
      | cons x l ih =>
        intro k q hq
        rcases List.mem_cons.1 hq with e | e
        · exact ⟨x, by rw [e]⟩
        · exact ih _ q e
    rcases lkS_spec (argSlots 0 args) u with e | e
    · rw [e] at hu; cases hu
    · rw [hu] at e; obtain ⟨x, hx⟩ := hno _ _ _ e; cases hx

/-- What follows, to the function's end: its answer, and what it leaves. -/
theorem rest_ok (ok : E.Ok) (hs : SoundC E.P call) {fn : Func} {n bi d : Nat} {c : Code} {h : Heap} {G0 G1 : Gh} {w0 w1 : World} {st : St} {a : Act} {out : AV} {h' : Heap}
    (h0 : RepHeap G0 w0 h) (hf : Fr d G0 w0 G1 w1) (he : evC E H fn.ntmps call n c bi st (fun e st' => match e with | .exit _ => none | _ => finish E H fn h st') (fun _ _ => none) = some (.ret out, h'))
    (hat : AtSt d fn.ntmps G1 w1 st a w1) (hd : a.defers = []) {R : Ending → World → Prop} (hR : ∀ e w', EndOk d G0 w0 (.ret out) h' e w' → R e w') : c.wpIn (FF none) 0 E.P (bodyPost E.P fn R) a w1 := by
  refine Code.wpIn_mono (fun e a' w' hq => ?_) (evC_ok (ro := none) (nn := 0) (D := []) (G0 := G1) (w0 := w1) ok hs c bi _ _ _ _ he hat hd)
  obtain ⟨hd', hq⟩ := hq
  have fin : ∀ {st' : St} {G' : Gh}, finish E H fn h st' = some (.ret out, h') → RepSt d G' w' st' a'.tmps → Fr d G1 w1 G' w' → a'.defers = [] ∧ ∃ v, (results fn a'.tmps).run E.P w' = .ok v w' ∧ R (.returned v) w' := by
    intro st' G' k1 k2 k3
    obtain ⟨v, j1, ⟨G2, j2, j3, j4, j5⟩, j6⟩ := finish_ok ok h0 k2 (hf.trans k3) k1
    exact ⟨hd', v, j1, hR _ _ ⟨G2, j2, j3, j4, j5⟩⟩
  cases e with
  | normal => obtain ⟨st', G', k1, k2, k3, k4⟩ := hq; exact fin k1 k2 k4
  | ret => obtain ⟨st', G', k1, k2, k3, k4⟩ := hq; exact fin k1 k2 k4
  | exit i => obtain ⟨st', G', k1, _⟩ := hq; cases k1
  | panic ch => obtain ⟨x, v, G', h', _, k1, _⟩ := hq; cases k1
  | goto l => exact hq.elim
  | outgrown => exact hq.elim

end
end Go.Sh
