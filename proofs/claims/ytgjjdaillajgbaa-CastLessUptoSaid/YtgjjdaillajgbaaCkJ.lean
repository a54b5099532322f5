/- CkJ: part of the proof: a shadow of the machine that is proved sound, and what the functions of this seat compute. Conditions: none. -/
import Derived.Test.YtgjjdaillajgbaaCkI
/- The law CastBack. -/
namespace Go.Sh.T
open Go Go.Sh
set_option linter.unusedSimpArgs false
set_option linter.unusedVariables false
set_option maxRecDepth 100000

theorem list_choose {α : Type} (P : Nat → α → Prop) : ∀ n : Nat, (∀ i, i < n → ∃ x, P i x) → ∃ ks : List α, ks.length = n ∧ ∀ (i : Nat) (x : α), ks[i]? = some x → P i x
  | 0, _ => ⟨[], rfl, fun i x h => by simp at h⟩
  | n + 1, h => by
    obtain ⟨ks, h1, h2⟩ := list_choose P n fun i hi => h i (by omega)
    obtain ⟨x, hx⟩ := h n (by omega)
    refine ⟨ks ++ [x], by simp [h1], fun i y hi => ?_⟩
    by_cases e : i < ks.length
    · rw [List.getElem?_append_left e] at hi; exact h2 i y hi
    · rw [List.getElem?_append_right (by omega)] at hi
      have hl := (List.getElem?_eq_some_iff.1 hi).1
      simp only [List.length_cons, List.length_nil] at hl
      have e0 : i - ks.length = 0 := by omega
      rw [e0] at hi
      have hi : x = y := by simpa using hi
      rw [← hi, show i = n from by omega]; exact hx
theorem fldL_all {f : Nat → Val → Got} {v : Val} {s : ByteArray} {n : Int} {all : List ByteArray} : ∀ (r : List ByteArray) (ks : List Val) (i : Nat) (acc : List Val), ks.length = r.length → (∀ (j : Nat) (k : Val), ks[j]? = some k → ∃ y, fieldV v (r.getD j ByteArray.empty) = some y ∧ f (i + j) y = .ok k) → fldL f v s n all i r acc = .ok (recV all (acc ++ ks))
  | [], [], i, acc, _, _ => by unfold fldL; rw [List.append_nil]
  | x :: r, k :: ks, i, acc, hl, h => by
    obtain ⟨y, h1, h2⟩ := h 0 k rfl
    have h1 : fieldV v x = some y := h1
    have h2 : f i y = .ok k := h2
    unfold fldL
    rw [h1]
    show (f i y).bind _ = _
    rw [h2, Got.bind_ok]
    have := fldL_all (all := all) (s := s) (n := n) r ks (i + 1) (acc ++ [k]) (by simpa using hl) fun j k' hj => by
      obtain ⟨y', e1, e2⟩ := h (j + 1) k' (by simpa using hj)
      exact ⟨y', e1, by rw [show i + 1 + j = i + (j + 1) from by omega]; exact e2⟩
    rw [this, List.append_assoc]; rfl
theorem fieldsF_all {f : Nat → Val → Got} {v : Val} {ls : List ByteArray} {s : ByteArray} {n : Int} {ks : List Val} (hk : v.k = 4) (hl : ks.length = ls.length) (h : ∀ (j : Nat) (k : Val), ks[j]? = some k → ∃ y, fieldV v (ls.getD j ByteArray.empty) = some y ∧ f j y = .ok k) : fieldsF f v ls s n = .ok (recV ls ks) := by
  unfold fieldsF
  rw [hk, eqd_self, cond_true]
  have := fldL_all (all := ls) (s := s) (n := n) ls ks 0 [] hl fun j k hj => by rw [Nat.zero_add]; exact h j k hj
  rw [List.nil_append] at this; exact this
/-- The field of a record that stands at a label's own place. -/
theorem fieldV_at {v : Val} {ls : List ByteArray} {i : Nat} {y : Val} (hr : risingR ls none = true) (hk : v.k = 4) (hl : v.labels = ls) (hi : i < ls.length) (hy : v.kids[i]? = some y) : fieldV v (ls.getD i ByteArray.empty) = some y := by
  unfold fieldV
  rw [hk, eqd_self, cond_true, hl, ix_rising hr (show ls[i]? = some (ls.getD i ByteArray.empty) from by rw [List.getD_eq_getElem?_getD, List.getElem?_eq_getElem hi]; rfl)]
  exact hy
section
variable {l : List Seal}
end
end Go.Sh.T
