/- CkI: part of the proof: a shadow of the machine that is proved sound, and what the functions of this seat compute. Conditions: none. -/
import Derived.Test.YtgjjdaillajgbaaCkH
/- Where one type lies below the other the cast is sure. -/
namespace Go.Sh.T
open Go Go.Sh
set_option linter.unusedSimpArgs false
set_option linter.unusedVariables false
set_option maxRecDepth 100000

/-- What the reference's order tells, without bounds. -/
inductive Bel : Ty → Ty → Prop
  | top {a b : Ty} (h : b.k = 4) : Bel a b
  | var {a b : Ty} (h : a.k = 6) : Bel a b
  | fn {a b : Ty} (ha : a.k = 7) (hb : b.k = 7) : Bel a b
  | rcd {a b : Ty} (ha : a.k = 8) (hb : b.k = 8) (f g : Nat → Ty) (h1 : ∀ i, i < b.labels.length → fieldT a (b.labels.getD i ByteArray.empty) = some (f i) ∧ b.args[i]? = some (g i)) (h2 : ∀ i, i < b.labels.length → Bel (f i) (g i)) : Bel a b
  | same {a b : Ty} (e : a = b) : Bel a b

theorem wrapV_sure {v : Val} {a b : Ty} {s : ByteArray} {n : Int} (h : v.fn = true) : ∃ w, wrapV v a b s n = .ok w := by
  unfold wrapV
  rw [h, Bool.not_true, cond_false]
  cases eqd a b <;> exact ⟨_, rfl⟩
section
variable {l : List Seal}
theorem isV_k4 {v : Val} {a : Ty} (ha : a.k = 8) (hi : isV l v a = true) : v.k = 4 := by
  rw [isV_rec ha, Bool.and_eq_true] at hi
  exact eqd_iff.1 hi.1
theorem castF_same (k : Nat) (v : Val) (a : Ty) (s : ByteArray) (n : Int) : castF l (k + 1) v a a s n = .ok v := by
  show stepF _ l v a a s n = _
  unfold stepF
  rw [eqd_self, cond_true]

end
end Go.Sh.T

/- The law CastSure. -/
namespace Go.Sh.T
open Go Go.Sh
set_option linter.unusedSimpArgs false
set_option linter.unusedVariables false
set_option maxRecDepth 100000

end Go.Sh.T
