/- CkC: part of the proof: a shadow of the machine that is proved sound, and what the functions of this seat compute. Conditions: none. -/
import Derived.Test.YtgjjdaillajgbaaCkB
import Derived.Test.YtgjjdaillajgbaaShB
import Derived.Test.YtgjjdaillajgbaaRows
namespace Go.Sh.T
open Go Go.Sh
set_option linter.unusedSimpArgs false
set_option linter.unusedVariables false
set_option maxRecDepth 100000

/- the program's names are the document's -/
theorem low_hi {c : Int} (h : 128 ≤ c) : lowB c = false := by
  unfold lowB; rw [show decide (c ≤ 122) = false from by simp; omega]; cases decide (c ≥ 97) <;> rfl
theorem up_hi {c : Int} (h : 128 ≤ c) : upB c = false := by
  unfold upB; rw [show decide (c ≤ 90) = false from by simp; omega]; cases decide (c ≥ 65) <;> rfl
theorem dig_hi {c : Int} (h : 128 ≤ c) : digB c = false := by
  unfold digB; rw [show decide (c ≤ 57) = false from by simp; omega]; cases decide (c ≥ 48) <;> rfl

theorem get_byte (s : ByteArray) (pos : Nat) (h : pos < s.size) (h' : pos < (bytes s).length) : s[pos]'h = (bytes s)[pos]'h' := rfl

theorem decode_big (s : ByteArray) (pos : Nat) (h : pos < s.size) (hb : 128 ≤ (s[pos]'h).toNat) : 128 ≤ (Utf8.decode s pos).1 := by
  have e : s.get! (pos + 0) = s[pos]'h := by
    show s.get! pos = _
    simp [ByteArray.get!, getElem!_pos, h]
    rfl
  simp only [Utf8.decode, e]
  rw [if_neg (by omega)]
  unfold Utf8.runeError
  repeat' split
  all_goals rename_i hc
  all_goals simp only [Bool.and_eq_true, decide_eq_true_eq, ge_iff_le] at *
  all_goals omega

theorem go_kind (s : ByteArray) : ∀ (m pos : Nat) (k : Int), 1 ≤ pos → s.size < m + pos → pos ≤ s.size → (k = 1 ∨ k = 2) → P178.goP s m pos k = kindL k ((bytes s).drop pos)
  | 0, pos, k, _, h1, h2, _ => by omega
  | m + 1, pos, k, h0, h1, h2, hk => by
    unfold P178.goP
    by_cases hp : pos < s.size
    · have hp' : pos < (bytes s).length := by rw [bytes_len]; exact hp
      rw [dif_pos hp, List.drop_eq_getElem_cons hp', kindL]
      have hz : (pos == 0) = false := by simp; omega
      by_cases hb : (s[pos]'hp).toNat < 128
      · rw [decode_ascii s pos hp hb, ← get_byte s pos hp hp']
        have ih := fun k hk => go_kind s m (pos + 1) k (by omega) (by omega) (by omega) hk
        simp only [hz]
        unfold P178.stepP badR
        rcases hk with e | e
        · subst e
          have := ih 1 (.inl rfl)
          cases lowB ((s[pos]'hp).toNat : Int) <;> cases upB ((s[pos]'hp).toNat : Int) <;> cases digB ((s[pos]'hp).toNat : Int) <;> first | rfl | exact this
        · subst e
          have := ih 2 (.inr rfl)
          cases lowB ((s[pos]'hp).toNat : Int) <;> cases upB ((s[pos]'hp).toNat : Int) <;> cases digB ((s[pos]'hp).toNat : Int) <;> first | rfl | exact this
      · have hd := decode_big s pos hp (by omega)
        have hq : (128 : Int) ≤ ((bytes s)[pos]'hp').toNat := by rw [← get_byte s pos hp hp']; omega
        unfold P178.stepP badR
        rw [low_hi (by omega), up_hi (by omega), dig_hi (by omega), low_hi hq, up_hi hq, dig_hi hq, hz]
        cases k != 0 <;> cases k == 2 <;> rfl
    · rw [dif_neg hp, List.drop_of_length_le (by rw [bytes_len]; omega), kindL]

theorem kindL_zero : ∀ l : List UInt8, kindL 0 l = 0
  | [] => rfl
  | c :: r => by rw [kindL, kindL_zero r]; cases badR 0 c.toNat <;> rfl

/-- What the document tells by letters alone. -/
def lettersR (s : ByteArray) : Int := match bytes s with
  | [] => 0
  | c :: r => bif decide (r.length ≥ 8) then 0 else kindL (kind0 c.toNat) r
theorem kindR_eq (s : ByteArray) : kindR s = bif keptR s != 0 then keptR s else lettersR s := rfl

theorem shape_letters (s : ByteArray) : P178.shapeP s = lettersR s := by
  unfold P178.shapeP lettersR
  have hl := bytes_len s
  cases hb : bytes s with
  | nil =>
    rw [hb] at hl
    have h0 : s.size = 0 := by simpa using hl.symm
    rw [show decide ((s.size : Int) > 8) = false from by simp; omega, cond_false]
    unfold P178.goP
    rw [dif_neg (by omega)]
  | cons c r =>
    rw [hb, List.length_cons] at hl
    show _ = cond (decide (r.length ≥ 8)) 0 (kindL (kind0 c.toNat) r)
    by_cases h8 : r.length ≥ 8
    · rw [show decide ((s.size : Int) > 8) = true from by simp; omega, show decide (r.length ≥ 8) = true from by simpa using h8]; rfl
    · rw [show decide ((s.size : Int) > 8) = false from by simp; omega, show decide (r.length ≥ 8) = false from by simpa using h8, cond_false]
      unfold P178.goP
      have hp : 0 < s.size := by omega
      rw [dif_pos hp]
      have hp' : 0 < (bytes s).length := by rw [hb]; simp
      have hg : s[0]'hp = c := by rw [get_byte s 0 hp hp']; simp [hb]
      have hdrop : (bytes s).drop 1 = r := by rw [hb]; rfl
      have ih := fun k hk => go_kind s 9 1 k (by omega) (by omega) (by omega) hk
      rw [hdrop] at ih
      by_cases hbb : (s[0]'hp).toNat < 128
      · rw [decode_ascii s 0 hp hbb, hg]
        unfold P178.stepP kind0
        have i1 := ih 1 (.inl rfl)
        have i2 := ih 2 (.inr rfl)
        have hlu : ¬ (lowB (c.toNat : Int) = true ∧ upB (c.toNat : Int) = true) := by
          intro ⟨h1, h2⟩
          unfold lowB at h1; unfold upB at h2
          simp at h1 h2; omega
        have hz := kindL_zero r
        cases hlo : lowB (c.toNat : Int) <;> cases hup : upB (c.toNat : Int)
        · exact hz.symm
        · exact i2
        · exact i1
        · exact absurd ⟨hlo, hup⟩ hlu
      · have hd := decode_big s 0 hp (by omega)
        have hq : (128 : Int) ≤ c.toNat := by rw [← hg]; omega
        unfold P178.stepP kind0
        rw [low_hi (by omega), up_hi (by omega), low_hi hq, up_hi hq]
        exact (kindL_zero r).symm

theorem shape_spec (s : ByteArray) (h : Heap) : evw E 178 [.lit (.string s)] h = some (.ret (.lit (.int .i64 (lettersR s))), h) := by
  rw [← shape_letters]
  exact evw_prim primsC (p := p178) (by kernel_rfl) rfl

def keptP (s : ByteArray) (x : Int) : Int := bif keys3.any (fun k => strEq s k) then 3 else bif keys4.any (fun k => strEq s k) then 4 else x
theorem strEq_comm (a b : ByteArray) : strEq a b = strEq b a := Bool.eq_iff_iff.2 ⟨fun h => by unfold strEq at *; rw [beq_iff_eq] at *; exact h.symm, fun h => by unfold strEq at *; rw [beq_iff_eq] at *; exact h.symm⟩
theorem keptP_eq (s : ByteArray) : keptP s (lettersR s) = kindR s := by
  have e : ∀ l : List ByteArray, (l.any fun k => strEq s k) = l.any fun k => strEq k s := fun l => by congr 1; funext k; exact strEq_comm s k
  rw [kindR_eq]; unfold keptP keptR
  rw [e, e]
  cases keys3.any (fun k => strEq k s) <;> cases keys4.any (fun k => strEq k s) <;> rfl

theorem eqS (s k : ByteArray) : binAV E .eql 9 (.lit (.string s)) (.lit (.string k)) = some (.lit (.bool (strEq s k))) := (Eq.refl _).trans rfl
theorem pkind_spec (s : ByteArray) (h : Heap) : evw E 167 [.lit (.string s)] h = some (.ret (.lit (.int .i64 (kindR s))), h) := by
  rw [← keptP_eq]
  refine evw_run primsC 0 rfl rfl rfl ?_
  rw [nf167, shape_spec, onOut_ret]
  unfold keptP keys3 keys4
  simp only [List.any_cons, List.any_nil, Bool.or_false]
  generalize lettersR s = x
  rw [eqS s ⟨#[108, 101, 116]⟩, bind_some', boolB, bind_some']
  cases strEq s ⟨#[108, 101, 116]⟩ with
  | true => rfl
  | false =>
  rw [condF]
  rw [eqS s ⟨#[105, 110]⟩, bind_some', boolB, bind_some']
  cases strEq s ⟨#[105, 110]⟩ with
  | true => rfl
  | false =>
  rw [condF]
  rw [eqS s ⟨#[105, 102]⟩, bind_some', boolB, bind_some']
  cases strEq s ⟨#[105, 102]⟩ with
  | true => rfl
  | false =>
  rw [condF]
  rw [eqS s ⟨#[116, 104, 101, 110]⟩, bind_some', boolB, bind_some']
  cases strEq s ⟨#[116, 104, 101, 110]⟩ with
  | true => rfl
  | false =>
  rw [condF]
  rw [eqS s ⟨#[101, 108, 115, 101]⟩, bind_some', boolB, bind_some']
  cases strEq s ⟨#[101, 108, 115, 101]⟩ with
  | true => rfl
  | false =>
  rw [condF]
  rw [eqS s ⟨#[102, 110]⟩, bind_some', boolB, bind_some']
  cases strEq s ⟨#[102, 110]⟩ with
  | true => rfl
  | false =>
  rw [condF]
  rw [eqS s ⟨#[99, 97, 108, 108]⟩, bind_some', boolB, bind_some']
  cases strEq s ⟨#[99, 97, 108, 108]⟩ with
  | true => rfl
  | false =>
  rw [condF]
  rw [eqS s ⟨#[100, 101, 102]⟩, bind_some', boolB, bind_some']
  cases strEq s ⟨#[100, 101, 102]⟩ with
  | true => rfl
  | false =>
  rw [condF]
  rw [eqS s ⟨#[116, 114, 117, 101]⟩, bind_some', boolB, bind_some']
  cases strEq s ⟨#[116, 114, 117, 101]⟩ with
  | true => rfl
  | false =>
  rw [condF]
  rw [eqS s ⟨#[102, 97, 108, 115, 101]⟩, bind_some', boolB, bind_some']
  cases strEq s ⟨#[102, 97, 108, 115, 101]⟩ with
  | true => rfl
  | false =>
  rw [condF]
  rw [eqS s ⟨#[73, 110, 116]⟩, bind_some', boolB, bind_some']
  cases strEq s ⟨#[73, 110, 116]⟩ with
  | true => rfl
  | false =>
  rw [condF]
  rw [eqS s ⟨#[66, 111, 111, 108]⟩, bind_some', boolB, bind_some']
  cases strEq s ⟨#[66, 111, 111, 108]⟩ with
  | true => rfl
  | false =>
  rw [condF]
  rw [eqS s ⟨#[83, 116, 114, 105, 110, 103]⟩, bind_some', boolB, bind_some']
  cases strEq s ⟨#[83, 116, 114, 105, 110, 103]⟩ with
  | true => rfl
  | false =>
  rw [condF]
  rw [eqS s ⟨#[84, 111, 112]⟩, bind_some', boolB, bind_some']
  cases strEq s ⟨#[84, 111, 112]⟩ with
  | true => rfl
  | false =>
  rw [condF]
  rfl

theorem pvar_spec (s : ByteArray) (h : Heap) : evw E 137 [.lit (.string s)] h = some (.ret (.lit (.bool (kindR s == 2))), h) := by
  refine evw_run primsC 0 rfl rfl rfl ?_
  rw [nf137, pkind_spec, onOut_ret, bin_int, eqlI, bind_some']
theorem pfine_spec (s : ByteArray) (h : Heap) : evw E 141 [.lit (.string s)] h = some (.ret (.lit (.bool (kindR s == 1))), h) := by
  refine evw_run primsC 0 rfl rfl rfl ?_
  rw [nf141, pkind_spec, onOut_ret, bin_int, eqlI, bind_some']

theorem prising_spec (l : List ByteArray) (hl : l.length ≤ maxLen) (h : Heap) : evw E 138 [.sl 1 (l.map strC)] h = some (.ret (.lit (.bool (risingR l none))), h) := by
  have hl : l.length ≤ 9223372036854775807 := hl
  have loop : ∀ (q i : Nat), i ≤ l.length → l.length < q + i → Lp138_0 (evw E) (l.length + 1) h q h (.sl 1 (l.map strC)) (.sl 1 (l.map strC)) (.lit (.int .i64 (l.length : Int))) (.lit (.int .i64 (i : Int))) = some (.ret (.lit (.bool (risingR (l.drop i) (if i = 0 then none else l[i - 1]?)))), h) := by
    intro q
    induction q with
    | zero => intro i h1 h2; omega
    | succ q ih =>
      intro i h1 h2
      rw [Lp138_0_succ, bin_int, lssI, bind_some', boolB, bind_some']
      by_cases hi : i < l.length
      · have hn := ih (i + 1) hi (by omega)
        rw [if_neg (by omega), Nat.add_sub_cancel, List.getElem?_eq_getElem hi] at hn
        rw [ltT hi, condT, indexA_map _ _ _ _ hi, bind_some', part_str, bind_some', pfine_spec, onOut_ret, notB, bind_some', boolB, bind_some', List.drop_eq_getElem_cons hi, risingR]
        cases e : kindR l[i] == 1 with
        | false => rfl
        | true =>
          rw [Bool.not_true, condF, bin_int, gtrI, bind_some', boolB, bind_some', Bool.true_and]
          by_cases h0 : i = 0
          · subst h0
            rw [show decide (((0 : Nat) : Int) > 0) = false from rfl, condF, bin_int, addI, bind_some', incI (by omega), if_pos rfl, gapR, Bool.true_and]
            exact hn
          · have hi1 : i - 1 < l.length := by omega
            rw [if_neg h0, List.getElem?_eq_getElem hi1, show decide ((i : Int) > 0) = true from by simp; omega, condT, bin_int, subI, bind_some', show sub64 (i : Int) 1 = ((i - 1 : Nat) : Int) from by unfold sub64; rw [IntWalk.i64_in _ (by omega)]; omega]
            rw [indexA_map _ _ _ _ hi1, bind_some', part_str, bind_some', bin_str, show strBin .geq l[i - 1] l[i] = some (.lit (.bool (!Op.bytesLess l[i - 1].toList l[i].toList))) from rfl, bind_some', boolB, bind_some']
            unfold gapR strLt
            simp only
            cases e2 : Op.bytesLess l[i - 1].toList l[i].toList with
            | false => rfl
            | true => rw [Bool.not_true, condF, Bool.true_and, bin_int, addI, bind_some', incI (by omega)]; exact hn
      · rw [ltF hi, condF, show l.drop i = [] from List.drop_eq_nil_of_le (by omega)]
        rfl
  refine evw_run primsC (l.length + 1) rfl rfl rfl ?_
  rw [nf138, lenA31, bind_some', List.length_map]
  have := loop (l.length + 1) 0 (Nat.zero_le _) (by omega)
  rw [if_pos rfl, List.drop_zero] at this
  exact this
end Go.Sh.T

namespace Go.Sh.T
open Go Go.Sh
set_option linter.unusedSimpArgs false
set_option linter.unusedVariables false
set_option maxRecDepth 100000

theorem andB (a b : Bool) (h : Heap) : cond a (some (Out.ret (.lit (.bool b)), h)) (some (.ret (.lit (.bool false)), h)) = some (.ret (.lit (.bool (a && b))), h) := by cases a <;> rfl
def bareR (k n : Int) (s : ByteArray) (m : Nat) : Bool := (k == 6 || emptyS s) && ((k == 9 || n == 0) && (k == 8 || (m : Int) == 0))
theorem bin_strE (x y : ByteArray) : binAV E .eql 9 (.lit (.string x)) (.lit (.string y)) = some (.lit (.bool (x.toList == y.toList))) := (Eq.refl _).trans rfl

theorem bare_spec (t : Ty) (h : Heap) : evw E 134 [.agg t.cells] h = some (.ret (.lit (.bool (bareR t.k t.n t.name t.labels.length))), h) := by
  refine evw_run primsC 0 rfl rfl rfl ?_
  rw [nf134, aggS, bind_some', Ty.cells_len, show Nat.beq 5 5 = true from rfl, condT, Ty.c0, Ty.c1, Ty.c2, Ty.c3]
  simp only [bin_int, eqlI, bind_some', boolB, bin_strE, lenA31, List.length_map]
  unfold bareR emptyS
  cases t.k == 6 <;> cases t.k == 9 <;> cases t.k == 8 <;> cases t.n == 0 <;> cases t.name.toList == ByteArray.empty.toList <;> rfl

theorem pright_tail (k n : Int) (s : ByteArray) (ls : List ByteArray) (xs : List Ty) (hl : ls.length ≤ maxLen) (h : Heap) (hb : bareR k n s ls.length = true) {x : R}
    (hx : x = evw E 85 [.agg (Ty.mk k n s ls xs).cells] h) (h135 : evw E 135 [.sl 5 (xs.map Ty.cells), .fn 136 [] []] h = some (.ret (.lit (.bool false)), h)) : x = some (.ret (.lit (.bool (nodeR k n s ls xs.length))), h) := by
  rw [hx]
  refine evw_run primsC 0 rfl rfl rfl ?_
  rw [nf85, aggS, bind_some', Ty.cells_len, show Nat.beq 5 5 = true from rfl, condT, Ty.refold, bare_spec, onOut_ret, notB, bind_some', boolB, bind_some', show bareR (Ty.mk k n s ls xs).k (Ty.mk k n s ls xs).n (Ty.mk k n s ls xs).name (Ty.mk k n s ls xs).labels.length = true from hb, Bool.not_true, condF, Ty.c0, Ty.c1, Ty.c2, Ty.c3, Ty.c4, show (Ty.mk k n s ls xs).args = xs from rfl, h135, onOut_ret, boolB, bind_some', condF]
  have hr := prising_spec ls hl h
  have hbn : nodeR k n s ls xs.length = (bif decide (k ≥ 1) && decide (k ≤ 5) then (xs.length : Int) == 0 else bif k == 6 then kindR s == 2 && (xs.length : Int) == 0 else
      bif k == 9 then decide (n ≥ 0) && (decide (n ≤ 1073741824) && (xs.length : Int) == 0) else bif k == 7 then (xs.length : Int) == 2 else k == 8 && (risingR ls none && (ls.length : Int) == (xs.length : Int))) := by
    unfold nodeR
    unfold bareR at hb
    have e1 : decide ((ls.length : Int) > 0) = !((ls.length : Int) == 0) := by
      by_cases h0 : ls.length = 0
      · rw [h0]; rfl
      · rw [decide_eq_true (show (ls.length : Int) > 0 by omega), beq_false_of_ne (show (ls.length : Int) ≠ 0 by omega)]; rfl
    rw [e1]
    simp only [bne]
    revert hb
    cases k == 6 <;> cases k == 9 <;> cases k == 8 <;> cases n == 0 <;> cases emptyS s <;> cases (ls.length : Int) == 0 <;> intro hb <;> first | (cases hb; done) | simp
  rw [hbn]
  simp only [Ty.k, Ty.n, Ty.name, Ty.labels]
  have h10 : k = 1 ∨ k = 2 ∨ k = 3 ∨ k = 4 ∨ k = 5 ∨ k = 6 ∨ k = 7 ∨ k = 8 ∨ k = 9 ∨ (k ≠ 1 ∧ k ≠ 2 ∧ k ≠ 3 ∧ k ≠ 4 ∧ k ≠ 5 ∧ k ≠ 6 ∧ k ≠ 7 ∧ k ≠ 8 ∧ k ≠ 9) := by omega
  rcases h10 with e | e | e | e | e | e | e | e | e | e
  all_goals try subst e
  all_goals simp only [bin_int, eqlI, geqI, leqI, bind_some', boolB, lenA29, lenA31, List.length_map, pvar_spec, hr, onOut_ret, Int.reduceBEq, condT, condF, andB, Int.reduceLE, Int.reduceGE, decide_true, decide_false, Bool.true_and, Bool.false_and, Bool.and_true, Bool.and_false]
  · rw [Bool.and_comm]
  · have e1 : ((xs.length : Int) == (ls.length : Int)) = ((ls.length : Int) == (xs.length : Int)) := by
      by_cases h0 : (xs.length : Int) = (ls.length : Int)
      · rw [h0]
      · rw [beq_false_of_ne h0, beq_false_of_ne (Ne.symm h0)]
    rw [e1, Bool.and_comm]
  · cases (xs.length : Int) == 0 <;> cases decide (n ≥ 0) <;> cases decide (n ≤ 1073741824) <;> rfl
  · obtain ⟨e1, e2, e3, e4, e5, e6, e7, e8, e9⟩ := e
    have e0 : (decide (k ≥ 1) && decide (k ≤ 5)) = false := by
      by_cases h0 : k ≥ 1
      · rw [decide_eq_true h0, decide_eq_false (show ¬ k ≤ 5 by omega)]; rfl
      · rw [decide_eq_false h0]; rfl
    rw [e0, beq_false_of_ne e1, beq_false_of_ne e2, beq_false_of_ne e3, beq_false_of_ne e4, beq_false_of_ne e5, beq_false_of_ne e6, beq_false_of_ne e7, beq_false_of_ne e8, beq_false_of_ne e9]
    rfl

theorem rightL_any : ∀ l : List Ty, l.any (fun a => !a.right) = !Ty.rightL l
  | [] => by rw [Ty.rightL]; rfl
  | t :: r => by rw [List.any_cons, Ty.rightL, rightL_any r, Bool.not_and]

/-- The program's Right is the document's. -/
theorem pright_spec : ∀ (t : Ty) (h : Heap), t.Ok → evw E 85 [.agg t.cells] h = some (.ret (.lit (.bool t.right)), h)
  | t, h, ok => by
    have hrec : ∀ a ∈ t.args, ∀ H : Heap, evw E 85 [.agg a.cells] H = some (.ret (.lit (.bool a.right)), H) := by
      intro a ha H
      obtain ⟨i, hi, rfl⟩ := List.mem_iff_getElem.1 ha
      exact pright_spec t.args[i] H (ok.arg ha)
    have h135 : evw E 135 [.sl 5 (t.args.map Ty.cells), .fn 136 [] []] h = some (.ret (.lit (.bool (!Ty.rightL t.args))), h) := by
      rw [← rightL_any]
      refine any_spec (fun a => !a.right) (.fn 136 [] []) h t.args ok.len fun a ha => ?_
      rw [applyS]
      show evw E 136 [.agg a.cells] h = _
      refine evw_run primsC 0 rfl rfl rfl ?_
      rw [nf136, aggS, bind_some', Ty.cells_len, show Nat.beq 5 5 = true from rfl, condT, Ty.refold, hrec a ha, onOut_ret, notB, bind_some']
    cases hb : bareR t.k t.n t.name t.labels.length with
    | false =>
      refine evw_run primsC 0 rfl rfl rfl ?_
      rw [nf85, aggS, bind_some', Ty.cells_len, show Nat.beq 5 5 = true from rfl, condT, Ty.refold, bare_spec, onOut_ret, notB, bind_some', boolB, bind_some', hb, Bool.not_false, condT, Ty.right_eq]
      have : nodeR t.k t.n t.name t.labels t.args.length = false := by
        unfold nodeR
        unfold bareR at hb
        have e1 : decide ((t.labels.length : Int) > 0) = !((t.labels.length : Int) == 0) := by
          by_cases h0 : t.labels.length = 0
          · rw [h0]; rfl
          · rw [decide_eq_true (show (t.labels.length : Int) > 0 by omega), beq_false_of_ne (show (t.labels.length : Int) ≠ 0 by omega)]; rfl
        rw [e1]
        simp only [bne]
        revert hb
        cases t.k == 6 <;> cases t.k == 9 <;> cases t.k == 8 <;> cases t.n == 0 <;> cases emptyS t.name <;> cases (t.labels.length : Int) == 0 <;> intro hb <;> first | (cases hb; done) | simp
      rw [this, Bool.and_false]
    | true =>
      cases hr : Ty.rightL t.args with
      | false =>
        refine evw_run primsC 0 rfl rfl rfl ?_
        rw [nf85, aggS, bind_some', Ty.cells_len, show Nat.beq 5 5 = true from rfl, condT, Ty.refold, bare_spec, onOut_ret, notB, bind_some', boolB, bind_some', hb, Bool.not_true, condF, Ty.c4, h135, onOut_ret, boolB, bind_some', hr, Bool.not_false, condT, Ty.right_eq, hr, Bool.false_and]
      | true =>
        rw [hr, Bool.not_true] at h135
        have := pright_tail t.k t.n t.name t.labels t.args ok.lab h hb rfl h135
        rw [Ty.right_eq, hr, Bool.true_and]
        rw [show (⟨t.k, t.n, t.name, t.labels, t.args⟩ : Ty) = t from by cases t; rfl] at this
        exact this
  termination_by t => SizeOf.sizeOf t
  decreasing_by exact Ty.size_arg hi
end Go.Sh.T

namespace Go.Sh.T
open Go Go.Sh
set_option linter.unusedSimpArgs false
set_option linter.unusedVariables false
set_option maxRecDepth 100000

structure Bind where
  name : ByteArray
  ty : Ty
def Bind.cells (b : Bind) : List AV := .lit (.string b.name) :: b.ty.cells
structure Bind.Ok (b : Bind) : Prop where
  name : b.name.size ≤ maxLen
  ty : b.ty.Ok
@[simp] theorem Bind.len (b : Bind) : b.cells.length = 6 := by simp [Bind.cells]
theorem Bind.p1 (b : Bind) : partA true 5 0 (b.cells.drop 1) = some (.agg b.ty.cells) := by
  rw [Bind.cells, List.drop_succ_cons, List.drop_zero]; exact partA_full (Ty.cells_len _)
theorem Bind.p0 (b : Bind) : partA false 1 0 (b.cells.drop 0) = some (.lit (.string b.name)) := (Eq.refl _).trans rfl
theorem Bind.g (b : Bind) (i : Nat) : b.cells.getD (i + 1) .dead = b.ty.cells.getD i .dead := (Eq.refl _).trans rfl
theorem lenA23 (es : List (List AV)) : lenA E 23 (.sl 6 es) = some (es.length : Int) := (Eq.refl _).trans (by kernel_rfl)

def few16L (n : Int) : List Bind → Int
  | [] => n
  | b :: r => few16L (max64 n [b.ty.much, quo8 b.name]) r
def few16 (l : List Bind) : Int := bif decide ((l.length : Int) > 20) then 5000 else few16L 0 (l.take 20)

theorem few16_spec (l : List Bind) (hl : l.length ≤ maxLen) (ok : ∀ s ∈ l, s.Ok) (h : Heap) : evw E 16 [.sl 6 (l.map Bind.cells)] h = some (.ret (.lit (.int .i64 (few16 l))), h) := by
  have hl : l.length ≤ 9223372036854775807 := hl
  have loop : ∀ (m i : Nat) (acc : Int), i ≤ l.length → l.length < m + i → Lp16_0 (evw E) (l.length + 1) h m h (.sl 6 (l.map Bind.cells)) (.lit (.int .i64 acc)) (.lit (.int .i64 (i : Int))) = some (.ret (.lit (.int .i64 (bif decide ((l.length : Int) > 20) then 5000 else few16L acc ((l.drop i).take (20 - i))))), h) := by
    intro m
    induction m with
    | zero => intro i acc h1 h2; omega
    | succ m ih =>
      intro i acc h1 h2
      rw [Lp16_0_succ]
      simp only [lenA23, bind_some', bin_int, lssI, boolB, List.length_map]
      by_cases hi : i < l.length
      · rw [ltT hi, condT]
        by_cases hk : i < 20
        · rw [show decide ((i : Int) < 20) = true from by simp; omega, condT]
          have o := ok l[i] (List.getElem_mem hi)
          have hm := maxs_i64 acc [l[i].ty.much, quo8 l[i].name]
          simp only [indexA_map _ _ _ _ hi, bind_some', Bind.len, show Nat.ble 0 6 = true from rfl, show Nat.ble 1 6 = true from rfl, Bind.p1, much_spec _ _ o.ty, onOut_ret]
          rw [condT, condT, Bind.p0]
          simp only [bind_some', lenS, bin_int, div8, addI]
          rw [show maxs (.lit (.int .i64 acc)) [.lit (.int .i64 l[i].ty.much), .lit (.int .i64 (quo8 l[i].name))] = _ from hm]
          rw [bind_some', incI (by omega), List.drop_eq_getElem_cons hi, show 20 - i = (20 - (i + 1)) + 1 from by omega, List.take_succ_cons, few16L]
          exact ih (i + 1) _ hi (by omega)
        · rw [show decide ((i : Int) < 20) = false from by simp; omega, condF, show 20 - i = 0 from by omega, List.take_zero, few16L, gtrI, bind_some', boolB, bind_some']
          cases decide ((l.length : Int) > 20) <;> rfl
      · rw [ltF hi, condF, List.drop_of_length_le (by omega), List.take_nil, few16L, gtrI, bind_some', boolB, bind_some']
        cases decide ((l.length : Int) > 20) <;> rfl
  refine evw_run primsC (l.length + 1) rfl rfl rfl ?_
  rw [nf16]
  have := loop (l.length + 1) 0 0 (Nat.zero_le _) (by omega)
  rw [List.drop_zero, Nat.sub_zero, show ((0 : Nat) : Int) = 0 from rfl] at this
  exact this

/- what is added -/
theorem mkSeal (r : Ty) (b : Bind) (df : ByteArray) (nd : Int) : [r.cells.getD 0 .dead, r.cells.getD 1 .dead, r.cells.getD 2 .dead, r.cells.getD 3 .dead, r.cells.getD 4 .dead, b.cells.getD 1 .dead, b.cells.getD 2 .dead, b.cells.getD 3 .dead, b.cells.getD 4 .dead, b.cells.getD 5 .dead, .lit (.string df), .lit (.int .i64 nd)] = (Seal.mk r b.ty df nd).cells := by
  have h1 := r.refold; have h2 := b.ty.refold
  have : ∀ a b c d e f g h i j k l : AV, [a, b, c, d, e, f, g, h, i, j, k, l] = [a, b, c, d, e] ++ ([f, g, h, i, j] ++ [k, l]) := fun _ _ _ _ _ _ _ _ _ _ _ _ => rfl
  rw [this, h1, show b.cells.getD 1 .dead = _ from Bind.g b 0, show b.cells.getD 2 .dead = _ from Bind.g b 1, show b.cells.getD 3 .dead = _ from Bind.g b 2, show b.cells.getD 4 .dead = _ from Bind.g b 3, show b.cells.getD 5 .dead = _ from Bind.g b 4, h2, Seal.cells]

theorem onOut_own {ρ : Type} (n : Nat) (es : List (List AV)) (h : Heap) (k1 : AV → Heap → Option ρ) (k2 : Nat → List (List AV) → Heap → Option ρ) (k3 : AV → Heap → Option ρ) : onOut (some (.own n es, h)) k1 k2 k3 = k2 n es h := (Eq.refl _).trans rfl
def addL (df : ByteArray) (nd : Int) : List Ty → List Bind → List Seal
  | r :: rs, b :: bs => ⟨r, b.ty, df, nd⟩ :: addL df nd rs bs
  | _, _ => []

theorem add_spec (l : List Seal) (rs : List Ty) (bs : List Bind) (df : ByteArray) (nd : Int) (h1 : l.length ≤ 1000000) (h2 : bs.length ≤ 1000000) (h : Heap) : evw E 19 [.sl 12 (l.map Seal.cells), .sl 5 (rs.map Ty.cells), .sl 6 (bs.map Bind.cells), .agg [.lit (.string df), .lit (.int .i64 nd)]] h = some (.ret (.tup [.sl 12 ((l ++ addL df nd rs bs).map Seal.cells), .lit (.int .i64 (l.length : Int))]), h) := by
  have loop : ∀ (m i : Nat) (acc : List Seal), i ≤ bs.length → bs.length < m + i → acc.length ≤ 1000000 + i → Lp19_0 (evw E) (bs.length + 1) h m h (.sl 12 (l.map Seal.cells)) (.sl 5 (rs.map Ty.cells)) (.lit (.string df)) (.lit (.int .i64 nd)) 12 (acc.map Seal.cells) (.sl 6 (bs.map Bind.cells)) (.lit (.int .i64 (bs.length : Int))) (.lit (.int .i64 (i : Int))) = some (.ret (.tup [.sl 12 ((acc ++ addL df nd (rs.drop i) (bs.drop i)).map Seal.cells), .lit (.int .i64 (l.length : Int))]), h) := by
    intro m
    induction m with
    | zero => intro i acc h3 h4; omega
    | succ m ih =>
      intro i acc h3 h4 h5
      rw [Lp19_0_succ, bin_int, lssI, bind_some', boolB, bind_some']
      by_cases hi : i < bs.length
      · rw [ltT hi, condT, indexA_map _ _ _ _ hi, bind_some', partA_full (Bind.len _), bind_some', aggS, bind_some', Bind.len, show Nat.beq 6 6 = true from rfl, condT, lenA29, bind_some', bin_int, lssI, bind_some', boolB, bind_some', List.length_map]
        by_cases hj : i < rs.length
        · rw [ltT hj, condT, indexA_map _ _ _ _ hj, bind_some', partA_full (Ty.cells_len _), bind_some', aggS, bind_some', Ty.cells_len, show Nat.beq 5 5 = true from rfl, condT, mkSeal]
          rw [show (Nat.beq 12 12 && Nat.ble ((acc.map Seal.cells).length + ([(Seal.mk rs[i] bs[i].ty df nd).cells] : List (List AV)).length) maxApp) = true from by
            rw [show Nat.beq 12 12 = true from rfl, Bool.true_and, Nat.ble_eq]; unfold maxApp; simp; omega, condT, bin_int, addI, bind_some', incI (by omega)]
          rw [show acc.map Seal.cells ++ [(Seal.mk rs[i] bs[i].ty df nd).cells] = (acc ++ [Seal.mk rs[i] bs[i].ty df nd]).map Seal.cells from by simp]
          rw [ih (i + 1) _ hi (by omega) (by simp; omega), List.drop_eq_getElem_cons hi, List.drop_eq_getElem_cons hj, addL, List.append_assoc, List.singleton_append]
        · rw [ltF hj, condF, bin_int, addI, bind_some', incI (by omega), ih (i + 1) acc hi (by omega) (by omega), show rs.drop i = [] from List.drop_eq_nil_of_le (by omega), show rs.drop (i + 1) = [] from List.drop_eq_nil_of_le (by omega)]
          have : ∀ x : List Bind, addL df nd [] x = [] := fun x => by cases x <;> rfl
          rw [this, this]
      · rw [ltF hi, condF, lenA22, bind_some', List.length_map, show bs.drop i = [] from List.drop_eq_nil_of_le (by omega)]
        have : ∀ x : List Ty, addL df nd x [] = [] := fun x => by cases x <;> rfl
        rw [this, List.append_nil]
  have h77 : evw E 77 [.sl 12 (l.map Seal.cells)] h = some (.own 12 (l.map Seal.cells), h) := by
    refine evw_prim primsC (p := p77) (by kernel_rfl) ?_
    show cond (Nat.ble (l.map Seal.cells).length maxApp) _ _ = _
    rw [show Nat.ble (l.map Seal.cells).length maxApp = true from by rw [Nat.ble_eq]; unfold maxApp; simp; omega, condT]
  refine evw_run primsC (bs.length + 1) rfl rfl rfl ?_
  rw [nf19, aggS, bind_some', show Nat.beq ([AV.lit (.string df), .lit (.int .i64 nd)] : List AV).length 2 = true from rfl, condT, h77]
  rw [onOut_own, lenA23, bind_some', List.length_map]
  have := loop (bs.length + 1) 0 l (Nat.zero_le _) (by omega) (by omega)
  rw [List.drop_zero, List.drop_zero, show ((0 : Nat) : Int) = 0 from rfl] at this
  exact this

/- the same seals -/
theorem label_neq (a b : ByteArray) (n m : Int) : binAV E .neq 25 (.agg [.lit (.string a), .lit (.int .i64 n)]) (.agg [.lit (.string b), .lit (.int .i64 m)]) = some (.lit (.bool (!((a == b) && ((n == m) && true))))) := (Eq.refl _).trans (by kernel_rfl)
def Seal.same (s u : Seal) : Bool := ((s.df == u.df) && ((s.nd == u.nd) && true)) && (s.rep.same u.rep && s.bound.same u.bound)
def same28L : List Seal → List Seal → Bool
  | s :: r, u :: v => s.same u && same28L r v
  | _, _ => true
theorem Seal.p10a (s : Seal) : partA true 2 0 (s.cells.drop 10) = some (.agg [.lit (.string s.df), .lit (.int .i64 s.nd)]) := by rw [Seal.d10]; rfl

theorem same28_spec (a b : List Seal) (ha : a.length ≤ maxLen) (oa : ∀ s ∈ a, s.Ok) (h : Heap) : evw E 22 [.sl 12 (a.map Seal.cells), .sl 12 (b.map Seal.cells)] h = some (.ret (.lit (.bool (decide (a.length = b.length) && same28L a b))), h) := by
  have ha : a.length ≤ 9223372036854775807 := ha
  have loop : ∀ (m i : Nat), i ≤ a.length → a.length < m + i → Lp22_0 (evw E) (a.length + 1) h m h (.sl 12 (a.map Seal.cells)) (.sl 12 (b.map Seal.cells)) (.lit (.int .i64 (i : Int))) = some (.ret (.lit (.bool (same28L (a.drop i) (b.drop i)))), h) := by
    intro m
    induction m with
    | zero => intro i h1 h2; omega
    | succ m ih =>
      intro i h1 h2
      rw [Lp22_0_succ, lenA22, bind_some', bin_int, lssI, bind_some', boolB, bind_some', List.length_map]
      by_cases hi : i < a.length
      · rw [ltT hi, condT, lenA22, bind_some', bin_int, lssI, bind_some', boolB, bind_some', List.length_map]
        by_cases hj : i < b.length
        · have o := oa a[i] (List.getElem_mem hi)
          have hn := ih (i + 1) hi (by omega)
          rw [ltT hj, condT]
          simp only [indexA_map _ _ _ _ hi, indexA_map _ _ _ _ hj, bind_some', Seal.len, show Nat.ble 0 12 = true from rfl, show Nat.ble 5 12 = true from rfl, show Nat.ble 10 12 = true from rfl, Seal.p0, Seal.p5, Seal.p10a, label_neq, condT, boolB, same_spec _ _ _ o.rep, same_spec _ _ _ o.bound, onOut_ret, notB, bin_int, addI, incI (show i < 9223372036854775807 by omega), hn]
          rw [List.drop_eq_getElem_cons hi, List.drop_eq_getElem_cons hj, same28L, Seal.same]
          cases ((a[i].df == b[i].df) && ((a[i].nd == b[i].nd) && true)) <;> cases a[i].rep.same b[i].rep <;> cases a[i].bound.same b[i].bound <;> rfl
        · rw [ltF hj, condF, show b.drop i = [] from List.drop_eq_nil_of_le (by omega)]
          cases a.drop i <;> rfl
      · rw [ltF hi, condF, show a.drop i = [] from List.drop_eq_nil_of_le (by omega)]
        rfl
  refine evw_run primsC (a.length + 1) rfl rfl rfl ?_
  rw [nf22, lenA22, bind_some', lenA22, bind_some', bin_int, neqI, bind_some', boolB, bind_some', List.length_map, List.length_map]
  have hx : ((a.length : Int) != (b.length : Int)) = !decide (a.length = b.length) := by
    by_cases e : a.length = b.length
    · simp [e]
    · have : (a.length : Int) ≠ (b.length : Int) := by omega
      simp [e, this]
  have := loop (a.length + 1) 0 (Nat.zero_le _) (by omega)
  rw [List.drop_zero, List.drop_zero, show ((0 : Nat) : Int) = 0 from rfl] at this
  rw [hx, this]
  cases decide (a.length = b.length) <;> rfl
end Go.Sh.T

namespace Go.Sh.T
open Go Go.Sh
set_option linter.unusedSimpArgs false
set_option linter.unusedVariables false
set_option maxRecDepth 100000

/- under, and ahead -/
theorem aheadL_all (n : Int) : ∀ l : List Ty, Ty.aheadL n l = !l.any (fun t => !t.ahead n)
  | [] => by rw [Ty.aheadL]; rfl
  | t :: r => by rw [Ty.aheadL, List.any_cons, aheadL_all n r]; cases t.ahead n <;> simp
mutual
theorem under_ahead (b : Int) : ∀ t : Ty, t.right = true → t.under b = t.ahead b
  | ⟨k, n, s, ls, xs⟩, h => by
    rw [Ty.right, Bool.and_eq_true] at h
    rw [Ty.under, Ty.ahead]
    cases hk : k == 9 with
    | true =>
      have hk := eq_of_beq hk
      subst hk
      have hx : xs = [] := by
        have := h.2
        unfold nodeR at this
        simp only [show decide ((9 : Int) ≥ 1) = true from rfl, show decide ((9 : Int) ≤ 5) = false from rfl, show ((9 : Int) == 6) = false from rfl, show ((9 : Int) == 9) = true from rfl, Bool.and_false, cond_false, cond_true, Bool.and_eq_true, beq_iff_eq] at this
        have := this.2.2.2
        cases xs with
        | nil => rfl
        | cons a r => simp at this; omega
      subst hx
      rw [Ty.aheadL, cond_true, Bool.true_and, Bool.and_true, Bool.eq_iff_iff]
      simp
    | false =>
      rw [cond_false, Bool.false_and, Bool.not_false, Bool.true_and, overA_ahead b xs h.1]
      simp
theorem overA_ahead (b : Int) : ∀ l : List Ty, Ty.rightL l = true → Ty.overA b l = !Ty.aheadL b l
  | [], _ => by rw [Ty.overA, Ty.aheadL]; rfl
  | t :: r, h => by
    rw [Ty.rightL, Bool.and_eq_true] at h
    rw [Ty.overA, Ty.aheadL, under_ahead b t h.1, overA_ahead b r h.2, Bool.not_and]
end
mutual
theorem ahead_mono {n m : Int} (hnm : n ≤ m) : ∀ t : Ty, t.ahead n = true → t.ahead m = true
  | ⟨k, x, s, ls, xs⟩, h => by
    rw [Ty.ahead, Bool.and_eq_true] at h ⊢
    refine ⟨?_, aheadL_mono hnm xs h.2⟩
    have := h.1
    cases hk : k == 9 with
    | false => rfl
    | true => rw [hk] at this; simp at this ⊢; omega
theorem aheadL_mono {n m : Int} (hnm : n ≤ m) : ∀ l : List Ty, Ty.aheadL n l = true → Ty.aheadL m l = true
  | [], h => by rw [Ty.aheadL]
  | t :: r, h => by
    rw [Ty.aheadL, Bool.and_eq_true] at h ⊢
    exact ⟨ahead_mono hnm t h.1, aheadL_mono hnm r h.2⟩
end

theorem rightSL_append : ∀ (l m : List Seal) (i : Nat), rightSL i (l ++ m) = (rightSL i l && rightSL (i + l.length) m)
  | [], m, i => by rw [List.nil_append, rightSL, Bool.true_and]; simp
  | s :: r, m, i => by rw [List.cons_append, rightSL, rightSL, rightSL_append r m (i + 1), Bool.and_assoc, List.length_cons, show i + 1 + r.length = i + (r.length + 1) from by omega]

theorem seal_right_mono {s : Seal} {i j : Int} (h : i ≤ j) (hr : s.right i = true) : s.right j = true := by
  unfold Seal.right at hr ⊢
  simp only [Bool.and_eq_true] at hr ⊢
  exact ⟨hr.1, hr.2.1, ahead_mono h _ hr.2.2.1, hr.2.2.2⟩

/-- A seal as SealStay puts it behind the list: its label is not looked at. -/
def bare28 (r : Ty) (b : Bind) : Seal := ⟨r, b.ty, ByteArray.empty, 0⟩

theorem rightSL_add (df : ByteArray) (nd : Int) (n : Nat) : ∀ (rs : List Ty) (bs : List Bind) (i : Nat), n ≤ i → (∀ (j : Nat) r b, rs[j]? = some r → bs[j]? = some b → (bare28 r b).right n = true) → rightSL i (addL df nd rs bs) = true
  | [], bs, i, _, _ => by cases bs <;> rfl
  | r :: rs, [], i, _, _ => rfl
  | r :: rs, b :: bs, i, hi, h => by
    rw [addL, rightSL, Bool.and_eq_true]
    refine ⟨?_, rightSL_add df nd n rs bs (i + 1) (by omega) fun j r' b' h1 h2 => h (j + 1) r' b' (by simpa using h1) (by simpa using h2)⟩
    have := seal_right_mono (i := n) (j := i) (by omega) (h 0 r b rfl rfl)
    exact this

theorem zip_right : ∀ (l : List Seal) (i : Nat), (∀ s ∈ l, s.rep.right = true ∧ s.bound.right = true) → ((l.zipIdx i).all fun p => (p.1.rep.right && (!p.1.rep.has 6 && p.1.rep.under p.2)) && (p.1.bound.right && (!p.1.bound.has 6 && p.1.bound.under 0))) = rightSL i l
  | [], i, _ => rfl
  | s :: r, i, h => by
    obtain ⟨h1, h2⟩ := h s List.mem_cons_self
    rw [List.zipIdx_cons, List.all_cons, zip_right r (i + 1) fun x hx => h x (List.mem_cons_of_mem _ hx), rightSL, Seal.right, under_ahead _ _ h1, under_ahead _ _ h2]
    simp only [Bool.and_assoc]
theorem rightSL_types : ∀ (l : List Seal) (i : Nat), rightSL i l = true → ∀ s ∈ l, s.rep.right = true ∧ s.bound.right = true
  | [], i, _, s, hs => by cases hs
  | x :: r, i, h, s, hs => by
    rw [rightSL, Bool.and_eq_true] at h
    rcases List.mem_cons.1 hs with e | e
    · rw [e]
      have := h.1
      unfold Seal.right at this
      simp only [Bool.and_eq_true] at this
      exact ⟨this.1, this.2.2.2.1⟩
    · exact rightSL_types r (i + 1) h.2 s e

/-- The program's list is right where the document's is. -/
theorem sealRight_spec (l : List Seal) (hl : l.length ≤ maxLen) (ok : ∀ s ∈ l, s.Ok) (h : Heap) : evw E 20 [.sl 12 (l.map Seal.cells)] h = some (.ret (.lit (.bool (((l.zipIdx).all fun p => (p.1.rep.right && (!p.1.rep.has 6 && p.1.rep.under p.2)) && (p.1.bound.right && (!p.1.bound.has 6 && p.1.bound.under 0))) && decide ((l.length : Int) ≤ 1073741824)))), h) :=
  sealRight_loop l hl ok h Ty.right fun s hs => ⟨pright_spec _ _ (ok s hs).rep, pright_spec _ _ (ok s hs).bound⟩

theorem ba_refl (s : ByteArray) : (s == s) = true := by
  show (s.data == s.data) = true
  exact beq_self_eq_true _
theorem ba_eq (s t : ByteArray) (h : (s == t) = true) : s = t := by
  have h : (s.data == t.data) = true := h
  have := eq_of_beq h
  cases s; cases t; simp at this; rw [this]
theorem Seal.same_refl (s : Seal) : s.same s = true := by
  unfold Seal.same
  rw [Ty.same_refl, Ty.same_refl, ba_refl, beq_self_eq_true]; rfl

theorem addL_len (df : ByteArray) (nd : Int) : ∀ (rs : List Ty) (bs : List Bind), rs.length = bs.length → (addL df nd rs bs).length = rs.length
  | [], [], _ => rfl
  | r :: rs, b :: bs, h => by rw [addL, List.length_cons, List.length_cons, addL_len df nd rs bs (by simpa using h)]
  | [], b :: bs, h => by simp at h
  | r :: rs, [], h => by simp at h
theorem addL_get (df : ByteArray) (nd : Int) : ∀ (rs : List Ty) (bs : List Bind) (i : Nat) (h1 : i < rs.length) (h2 : i < bs.length), (addL df nd rs bs)[i]? = some ⟨rs[i], bs[i].ty, df, nd⟩
  | r :: rs, b :: bs, 0, _, _ => rfl
  | r :: rs, b :: bs, i + 1, h1, h2 => by rw [addL, List.getElem?_cons_succ]; exact addL_get df nd rs bs i (by simpa using h1) (by simpa using h2)
theorem addL_ok (df : ByteArray) (nd : Int) (hd : df.size ≤ maxLen) : ∀ (rs : List Ty) (bs : List Bind), (∀ r ∈ rs, r.Ok) → (∀ b ∈ bs, b.Ok) → ∀ s ∈ addL df nd rs bs, s.Ok
  | r :: rs, b :: bs, h1, h2, s, hs => by
    rw [addL] at hs
    rcases List.mem_cons.1 hs with e | e
    · rw [e]; exact ⟨h1 r List.mem_cons_self, (h2 b List.mem_cons_self).ty, hd⟩
    · exact addL_ok df nd hd rs bs (fun x hx => h1 x (List.mem_cons_of_mem _ hx)) (fun x hx => h2 x (List.mem_cons_of_mem _ hx)) s e
  | [], bs, _, _, s, hs => by cases bs <;> cases hs
  | r :: rs, [], _, _, s, hs => by cases hs

theorem slice1 (l : List Seal) (i : Nat) (h : i < l.length) : sliceA E 22 (.sl 12 (l.map Seal.cells)) (some (.lit (.int .i64 (i : Int)))) (some (.lit (.int .i64 ((i + 1 : Nat) : Int)))) = some (.sl 12 [l[i].cells]) := by
  have e1 : isStr E 22 = false := by kernel_rfl
  have e2 : elemSize E 22 = some 12 := by kernel_rfl
  unfold sliceA
  simp only [e1, e2, condF, bndO, intOf, slOf, Option.bind_some, show Nat.beq 12 12 = true from rfl, condT, List.length_map]
  rw [decide_eq_true (show (0 : Int) ≤ (i : Int) by omega), decide_eq_true (show (i : Int) ≤ ((i + 1 : Nat) : Int) by omega), decide_eq_true (show ((i + 1 : Nat) : Int) ≤ (l.length : Int) by omega)]
  simp only [Bool.true_and, condT, Int.toNat_natCast]
  rw [List.drop_take, show i + 1 - i = 1 from by omega, List.drop_eq_getElem_cons (by simpa using h), List.take_succ_cons, List.take_zero, List.getElem_map]
end Go.Sh.T

namespace Go.Sh.T
open Go Go.Sh
set_option linter.unusedSimpArgs false
set_option linter.unusedVariables false
set_option maxRecDepth 100000

theorem few15_len {l : List Seal} (h : ¬ few15 l > 100) : l.length ≤ 12 := by
  by_cases h1 : l.length ≤ 12
  · exact h1
  · exfalso; apply h
    unfold few15
    rw [decide_eq_true (show (l.length : Int) > 12 by omega)]
    show (5000 : Int) > 100
    decide
theorem few16_len {l : List Bind} (h : ¬ few16 l > 100) : l.length ≤ 20 := by
  by_cases h1 : l.length ≤ 20
  · exact h1
  · exfalso; apply h
    unfold few16
    rw [decide_eq_true (show (l.length : Int) > 20 by omega)]
    show (5000 : Int) > 100
    decide

theorem mkSeal2 (r b : Ty) (df : ByteArray) (nd : Int) : [r.cells.getD 0 .dead, r.cells.getD 1 .dead, r.cells.getD 2 .dead, r.cells.getD 3 .dead, r.cells.getD 4 .dead, b.cells.getD 0 .dead, b.cells.getD 1 .dead, b.cells.getD 2 .dead, b.cells.getD 3 .dead, b.cells.getD 4 .dead, .lit (.string df), .lit (.int .i64 nd)] = (Seal.mk r b df nd).cells := by
  have h1 := r.refold; have h2 := b.refold
  have : ∀ a b c d e f g h i j k l : AV, [a, b, c, d, e, f, g, h, i, j, k, l] = [a, b, c, d, e] ++ ([f, g, h, i, j] ++ [k, l]) := fun _ _ _ _ _ _ _ _ _ _ _ _ => rfl
  rw [this, h1, h2, Seal.cells]
theorem slS (n : Nat) (es : List (List AV)) : slOf n (.sl n es) = some es := by unfold slOf; simp
theorem zero_ty_seal_ok : (Lit.int .i64 0).wf = true := by decide

theorem stay_loop1 (l : List Seal) (hl : l.length ≤ 12) (rs : List Ty) (bs : List Bind) (hlen : rs.length = bs.length) (hb : bs.length ≤ 20) (okl : ∀ s ∈ l, s.Ok) (okr : ∀ r ∈ rs, r.Ok) (okb : ∀ b ∈ bs, b.Ok) (df : ByteArray) (hd : df.size ≤ maxLen) (nd : Int) (h : Heap) (n : Nat) :
    ∀ (m i : Nat), i ≤ (l ++ addL df nd rs bs).length → (l ++ addL df nd rs bs).length < m + i → Lp3_1 (evw E) n h m h (.sl 12 (l.map Seal.cells)) (.sl 6 (bs.map Bind.cells)) (.lit (.string df)) (.lit (.int .i64 nd)) (rs.map Ty.cells) (.sl 12 ((l ++ addL df nd rs bs).map Seal.cells)) (.lit (.int .i64 (l.length : Int))) (.lit (.int .i64 (i : Int))) = some (.ret (.lit (.bool true)), h) := by
  intro m
  induction m with
  | zero => intro i h1 h2; omega
  | succ m ih =>
    intro i h1 h2
    have hal : (l ++ addL df nd rs bs).length = l.length + rs.length := by rw [List.length_append, addL_len df nd rs bs hlen]
    have oka : ∀ s ∈ l ++ addL df nd rs bs, s.Ok := fun s hs => by
      rcases List.mem_append.1 hs with e | e
      · exact okl s e
      · exact addL_ok df nd hd rs bs okr okb s e
    rw [Lp3_1_succ, lenA22, bind_some', bin_int, lssI, bind_some', boolB, bind_some', List.length_map]
    by_cases hi : i < (l ++ addL df nd rs bs).length
    · have hn := ih (i + 1) hi (by omega)
      rw [ltT hi, condT, find_spec, findT_in hi, onOut_ret, tupS, bind_some']
      rw [show ([AV.agg (l ++ addL df nd rs bs)[i].cells, .lit (.bool true)] : List AV)[0]? = some (.agg (l ++ addL df nd rs bs)[i].cells) from rfl, bind_some', bind_some', show ([AV.agg (l ++ addL df nd rs bs)[i].cells, .lit (.bool true)] : List AV)[1]? = some (.lit (.bool true)) from rfl, bind_some', aggS, bind_some', Seal.len, show Nat.beq 12 12 = true from rfl, condT, notB, bind_some', boolB, bind_some', Bool.not_true, condF, bin_int, lssI, bind_some', boolB, bind_some', Seal.re, Seal.reRep, Seal.reBound, Seal.g10, Seal.g11]
      by_cases hf : i < l.length
      · have hs : (l ++ addL df nd rs bs)[i] = l[i] := List.getElem_append_left hf
        rw [ltT hf, condT, bin_int, addI, bind_some', incI (by omega), slice1 l i hf, bind_some', hs]
        have h22 := same28_spec [l[i]] [l[i]] (show 1 ≤ maxLen by decide) (fun s hs => by rw [List.mem_singleton.1 hs]; exact okl _ (List.getElem_mem hf)) h
        rw [show ([l[i]].map Seal.cells) = [l[i].cells] from rfl] at h22
        rw [h22, onOut_ret, notB, bind_some', boolB, bind_some', show (decide ([l[i]].length = [l[i]].length) && same28L [l[i]] [l[i]]) = true from by rw [same28L, Seal.same_refl]; simp [same28L], Bool.not_true, condF, bin_int, geqI, bind_some', boolB, bind_some']
        rw [show decide ((i : Int) ≥ (l.length : Int)) = false from by simp; omega, condF, bind_some']
        exact hn
      · obtain ⟨q, hq⟩ : ∃ q, i = l.length + q := ⟨i - l.length, by omega⟩
        have hqr : q < rs.length := by omega
        have hqb : q < bs.length := by omega
        have hs : (l ++ addL df nd rs bs)[i]? = some ⟨rs[q], bs[q].ty, df, nd⟩ := by
          rw [hq, List.getElem?_append_right (by omega), Nat.add_sub_cancel_left]
          exact addL_get df nd rs bs q hqr hqb
        rw [List.getElem?_eq_getElem hi] at hs
        have hs := Option.some.inj hs
        have es : sub64 (i : Int) (l.length : Int) = (q : Int) := by unfold sub64; rw [IntWalk.i64_in _ (by omega)]; omega
        rw [ltF hf, condF, bin_int, geqI, bind_some', boolB, bind_some', show decide ((i : Int) ≥ (l.length : Int)) = true from by simp; omega, condT, bin_int, subI, bind_some', es, hs]
        rw [indexA_map _ _ _ _ hqr, bind_some', partA_full (Ty.cells_len _), bind_some', same_spec _ _ _ (okr _ (List.getElem_mem hqr)), Ty.same_refl, onOut_ret, notB, bind_some', boolB, bind_some', Bool.not_true, condF, bind_some', indexA_map _ _ _ _ hqb, bind_some', Bind.len, show Nat.ble 1 6 = true from rfl, condT, Bind.p1, bind_some', same_spec _ _ _ (okb _ (List.getElem_mem hqb)).ty, Ty.same_refl, onOut_ret, notB, bind_some', boolB, bind_some', Bool.not_true, condF, label_neq, bind_some', boolB, bind_some', ba_refl, beq_self_eq_true]
        rw [show (!(true && (true && true))) = false from rfl, condF, bin_int, addI, bind_some', incI (by omega)]
        exact hn
    · rw [ltF hi, condF, awake17, onOut_ret]

theorem sealStay_run (l : List Seal) (hll : l.length ≤ maxLen) (okl : ∀ s ∈ l, s.Ok) (reps ends : List Bind) (hrl : reps.length ≤ maxLen) (hel : ends.length ≤ maxLen) (okr : ∀ b ∈ reps, b.Ok) (oke : ∀ b ∈ ends, b.Ok) (df : ByteArray) (hd : df.size ≤ maxLen) (nd : Int) (h : Heap) :
    evw E 3 [.sl 12 (l.map Seal.cells), .sl 6 (reps.map Bind.cells), .sl 6 (ends.map Bind.cells), .agg [.lit (.string df), .lit (.int .i64 nd)]] h = some (.ret (.lit (.bool true)), h) := by
  refine evw_run primsC 60 rfl rfl rfl ?_
  rw [nf3, aggS, bind_some', show Nat.beq ([AV.lit (.string df), .lit (.int .i64 nd)] : List AV).length 2 = true from rfl, condT, few15_spec l hll okl, onOut_ret, bin_int, gtrI, bind_some', boolB, bind_some']
  refine cond_split (fun h1 => by rw [awake17, onOut_ret]) (fun h1 => ?_)
  rw [few16_spec reps hrl okr, onOut_ret, bin_int, gtrI, bind_some', boolB, bind_some']
  refine cond_split (fun h2 => by rw [awake17, onOut_ret]) (fun h2 => ?_)
  rw [few16_spec ends hel oke, onOut_ret, bin_int, gtrI, bind_some', boolB, bind_some']
  refine cond_split (fun h3 => by rw [awake17, onOut_ret]) (fun h3 => ?_)
  rw [lenA23, bind_some', lenA23, bind_some', bin_int, neqI, bind_some', boolB, bind_some', List.length_map, List.length_map]
  refine cond_split (fun h4 => by rw [awake17, onOut_ret]) (fun h4 => ?_)
  have hl : l.length ≤ 12 := few15_len (of_decide_eq_false h1)
  have hr : reps.length ≤ 20 := few16_len (of_decide_eq_false h2)
  have he : ends.length ≤ 20 := few16_len (of_decide_eq_false h3)
  have hre : reps.length = ends.length := by
    have : ¬ ((reps.length : Int) ≠ (ends.length : Int)) := by simpa using h4
    omega
  rw [right28_spec l hll okl, onOut_ret, show ([AV.lit (.string df), .lit (.int .i64 nd)] : List AV).getD 0 .dead = .lit (.string df) from rfl, show ([AV.lit (.string df), .lit (.int .i64 nd)] : List AV).getD 1 .dead = .lit (.int .i64 nd) from rfl]
  have loop : ∀ (m i : Nat) (f : Bool), i ≤ reps.length → reps.length < m + i → (f = true → right28 l = true ∧ ∀ j < i, ∀ r b, reps[j]? = some r → ends[j]? = some b → (bare28 r.ty b).right l.length = true) →
      Lp3_0 (evw E) 60 h m h (.sl 12 (l.map Seal.cells)) (.sl 6 (reps.map Bind.cells)) (.sl 6 (ends.map Bind.cells)) (.lit (.string df)) (.lit (.int .i64 nd)) (((reps.take i).map Bind.ty).map Ty.cells) (.lit (.bool f)) (.lit (.int .i64 (i : Int))) = some (.ret (.lit (.bool true)), h) := by
    intro m
    induction m with
    | zero => intro i f hi1 hi2; omega
    | succ m ih =>
      intro i f hi1 hi2 hf
      rw [Lp3_0_succ, lenA23, bind_some', bin_int, lssI, bind_some', boolB, bind_some', List.length_map]
      by_cases hi : i < reps.length
      · have hie : i < ends.length := by omega
        rw [ltT hi, condT, lenA23, bind_some', bin_int, lssI, bind_some', boolB, bind_some', List.length_map, ltT hie, condT, indexA_map _ _ _ _ hi, bind_some', Bind.len, show Nat.ble 1 6 = true from rfl, condT, Bind.p1, bind_some', aggS, bind_some', Ty.cells_len, show Nat.beq 5 5 = true from rfl, condT, Ty.refold]
        rw [show Nat.ble ((((reps.take i).map Bind.ty).map Ty.cells).length + ([reps[i].ty.cells] : List (List AV)).length) maxApp = true from by rw [Nat.ble_eq]; unfold maxApp; simp; omega, condT, boolB, bind_some']
        have hz : ((reps.take i).map Bind.ty).map Ty.cells ++ [reps[i].ty.cells] = ((reps.take (i + 1)).map Bind.ty).map Ty.cells := by
          rw [show reps.take (i + 1) = reps.take i ++ [reps[i]] from by rw [List.take_add_one, List.getElem?_eq_getElem hi]; rfl, List.map_append, List.map_append]; rfl
        rw [hz]
        cases f with
        | false =>
          rw [condF, bin_int, addI, bind_some', incI (by omega)]
          exact ih (i + 1) false hi (by omega) (fun e => by cases e)
        | true =>
          rw [condT, slS, bind_some', show Nat.ble (([] : List (List AV)).length + (l.map Seal.cells).length) maxApp = true from by rw [Nat.ble_eq]; unfold maxApp; simp; omega, condT, indexA_map _ _ _ _ hie, bind_some', Bind.len, show Nat.ble 1 6 = true from rfl, condT, Bind.p1, bind_some', aggS, bind_some', Ty.cells_len, show Nat.beq 5 5 = true from rfl, condT, mkSeal2, List.nil_append]
          rw [show Nat.ble ((l.map Seal.cells).length + ([(Seal.mk reps[i].ty ends[i].ty ByteArray.empty 0).cells] : List (List AV)).length) maxApp = true from by rw [Nat.ble_eq]; unfold maxApp; simp; omega, condT]
          rw [show l.map Seal.cells ++ [(Seal.mk reps[i].ty ends[i].ty ByteArray.empty 0).cells] = (l ++ [bare28 reps[i].ty ends[i]]).map Seal.cells from by simp [bare28]]
          rw [right28_spec _ (show (l ++ [bare28 reps[i].ty ends[i]]).length ≤ maxLen from by rw [List.length_append]; exact Nat.le_trans (show l.length + 1 ≤ 13 by omega) (by decide)) (fun s hs => by
            rcases List.mem_append.1 hs with e | e
            · exact okl s e
            · rw [List.mem_singleton.1 e]; exact ⟨(okr _ (List.getElem_mem hi)).ty, (oke _ (List.getElem_mem hie)).ty, show ByteArray.empty.size ≤ maxLen by decide⟩), onOut_ret, bin_int, addI, bind_some', incI (by omega)]
          refine ih (i + 1) _ hi (by omega) fun e => ?_
          obtain ⟨g1, g2⟩ := hf rfl
          refine ⟨g1, fun j hj r b hr' hb' => ?_⟩
          by_cases hji : j < i
          · exact g2 j hji r b hr' hb'
          · have : j = i := by omega
            subst this
            rw [List.getElem?_eq_getElem hi] at hr'; rw [List.getElem?_eq_getElem hie] at hb'
            cases hr'; cases hb'
            unfold right28 at e
            rw [Bool.and_eq_true, rightSL_append, Bool.and_eq_true, rightSL, Bool.and_eq_true] at e
            have := e.1.2.1
            rwa [Nat.zero_add] at this
      · have hi' : i = reps.length := by omega
        subst hi'
        rw [ltF hi, condF, List.take_length]
        have hrs : (reps.map Bind.ty).length = ends.length := by rw [List.length_map]; exact hre
        have okrs : ∀ r ∈ reps.map Bind.ty, r.Ok := fun r hr' => by obtain ⟨b, hb, rfl⟩ := List.mem_map.1 hr'; exact (okr b hb).ty
        have hal : (l ++ addL df nd (reps.map Bind.ty) ends).length = l.length + reps.length := by rw [List.length_append, addL_len df nd _ ends hrs, List.length_map]
        have oka : ∀ s ∈ l ++ addL df nd (reps.map Bind.ty) ends, s.Ok := fun s hs => by
          rcases List.mem_append.1 hs with e | e
          · exact okl s e
          · exact addL_ok df nd hd _ ends okrs oke s e
        have l1 := stay_loop1 l hl (reps.map Bind.ty) ends hrs he okl okrs oke df hd nd h 60 60 0 (Nat.zero_le _) (by omega)
        rw [show ((0 : Nat) : Int) = 0 from rfl] at l1
        rw [add_spec l (reps.map Bind.ty) ends df nd (by omega) (by omega), onOut_ret, tupS, bind_some']
        rw [show ([AV.sl 12 ((l ++ addL df nd (reps.map Bind.ty) ends).map Seal.cells), .lit (.int .i64 (l.length : Int))] : List AV)[0]? = some (.sl 12 ((l ++ addL df nd (reps.map Bind.ty) ends).map Seal.cells)) from rfl, bind_some', bind_some', show ([AV.sl 12 ((l ++ addL df nd (reps.map Bind.ty) ends).map Seal.cells), .lit (.int .i64 (l.length : Int))] : List AV)[1]? = some (.lit (.int .i64 (l.length : Int))) from rfl, bind_some', lenA22, bind_some', bin_int, neqI, bind_some', boolB, bind_some', List.length_map, show ((l.length : Int) != (l.length : Int)) = false from by simp, condF]
        rw [lenA22, bind_some', bind_some', lenA29, bind_some', bin_int, addI, bind_some', bin_int, neqI, bind_some', boolB, bind_some', List.length_map, List.length_map, List.length_map, hal]
        rw [show (((l.length + reps.length : Nat) : Int) != add64 (l.length : Int) (reps.length : Int)) = false from by
          rw [add64_of (by omega) (by omega)]; simp, condF, boolB, bind_some']
        cases f with
        | false => rw [condF]; exact l1
        | true =>
          obtain ⟨g1, g2⟩ := hf rfl
          have hrt : rightSL 0 (l ++ addL df nd (reps.map Bind.ty) ends) = true := by
            unfold right28 at g1
            rw [Bool.and_eq_true] at g1
            rw [rightSL_append, g1.1, Bool.true_and]
            refine rightSL_add df nd l.length _ ends _ (by omega) fun j r b hr' hb' => ?_
            obtain ⟨x, hx, rfl⟩ : ∃ x, reps[j]? = some x ∧ x.ty = r := by
              rw [List.getElem?_map] at hr'
              exact Option.map_eq_some_iff.1 hr'
            have hjl : j < reps.length := (List.getElem?_eq_some_iff.1 hx).1
            exact g2 j hjl x b hx hb'
          rw [condT, sealRight_spec _ (show (l ++ addL df nd (reps.map Bind.ty) ends).length ≤ maxLen from by rw [hal]; exact Nat.le_trans (show l.length + reps.length ≤ 40 by omega) (by decide)) oka, onOut_ret, notB, bind_some', boolB, bind_some', zip_right _ 0 (rightSL_types _ 0 hrt), hrt, decide_eq_true (show ((l ++ addL df nd (reps.map Bind.ty) ends).length : Int) ≤ 1073741824 by rw [hal]; omega)]
          rw [show (!(true && true)) = false from rfl, condF]
          exact l1
  have := loop 60 0 (right28 l) (Nat.zero_le _) (by omega) (fun e => ⟨e, fun j hj => by omega⟩)
  rw [List.take_zero, show ((0 : Nat) : Int) = 0 from rfl] at this
  exact this

theorem sealStay_row (l : List Seal) (hl : l.length ≤ maxLen) (ol : ∀ s ∈ l, s.Ok) (r : List Bind) (hr : r.length ≤ maxLen) (or : ∀ b ∈ r, b.Ok) (e : List Bind) (he : e.length ≤ maxLen) (oe : ∀ b ∈ e, b.Ok) (df : ByteArray) (nd : Int) (hd : df.size ≤ maxLen) (h0 : (Lit.int .i64 nd).wf = true) (h : Heap) :
    evw E 3 [.sl 12 (l.map Seal.cells), .sl 6 (r.map Bind.cells), .sl 6 (e.map Bind.cells), .agg [.lit (.string df), .lit (.int .i64 nd)]] h = some (.ret (.lit (.bool true)), h) :=
  sealStay_run l hl ol r e hr he or oe df hd nd h
end Go.Sh.T

namespace Go.Sh.T
open Go Go.Sh
set_option linter.unusedSimpArgs false
set_option linter.unusedVariables false
set_option maxRecDepth 100000

theorem rfind_spec (l : List Seal) (n : Int) (h : Heap) : evw E 30 [.sl 12 (l.map Seal.cells), .lit (.int .i64 n)] h = some (.ret (.tup [.agg (findT l n).1.cells, .lit (.bool (findT l n).2)]), h) := by
  refine evw_run primsC 0 rfl rfl rfl ?_
  rw [nf30, bin_int, lssI, bind_some', boolB, bind_some']
  by_cases h0 : n < 0
  · rw [show decide (n < 0) = true from by simpa using h0, condT]
    have : findT l n = (zeroSeal, false) := by unfold findT; rw [dif_neg (by omega)]
    rw [this, zeroSeal_cells]
  · rw [show decide (n < 0) = false from by simpa using h0, condF, lenA22, bind_some', bin_int, geqI, bind_some', boolB, bind_some', List.length_map]
    by_cases h1 : n ≥ l.length
    · rw [show decide (n ≥ (l.length : Int)) = true from by simpa using h1, condT]
      have : findT l n = (zeroSeal, false) := by unfold findT; rw [dif_neg (by omega)]
      rw [this, zeroSeal_cells]
    · rw [show decide (n ≥ (l.length : Int)) = false from by simpa using h1, condF]
      obtain ⟨i, rfl⟩ : ∃ i : Nat, n = (i : Int) := ⟨n.toNat, by omega⟩
      have hi : i < l.length := by omega
      rw [indexA_map _ _ _ _ hi, bind_some', partA_full (Seal.len _), bind_some', aggS, bind_some', Seal.len, show Nat.beq 12 12 = true from rfl, condT, findT_in hi, Seal.re]

theorem radd_spec (l : List Seal) (rs : List Ty) (bs : List Bind) (df : ByteArray) (nd : Int) (h1 : l.length ≤ 1000000) (h2 : rs.length ≤ 1000000) (h : Heap) : evw E 29 [.sl 12 (l.map Seal.cells), .sl 5 (rs.map Ty.cells), .sl 6 (bs.map Bind.cells), .agg [.lit (.string df), .lit (.int .i64 nd)]] h = some (.ret (.tup [.sl 12 ((l ++ addL df nd rs bs).map Seal.cells), .lit (.int .i64 (l.length : Int))]), h) := by
  have loop : ∀ (m i : Nat) (acc : List Seal), i ≤ rs.length → rs.length < m + i → acc.length ≤ 1000000 + i → Lp29_0 (evw E) (rs.length + 1) h m h (.sl 12 (l.map Seal.cells)) (.sl 5 (rs.map Ty.cells)) (.sl 6 (bs.map Bind.cells)) (.lit (.string df)) (.lit (.int .i64 nd)) (acc.map Seal.cells) (.lit (.int .i64 (i : Int))) = some (.ret (.tup [.sl 12 ((acc ++ addL df nd (rs.drop i) (bs.drop i)).map Seal.cells), .lit (.int .i64 (l.length : Int))]), h) := by
    intro m
    induction m with
    | zero => intro i acc h3 h4; omega
    | succ m ih =>
      intro i acc h3 h4 h5
      rw [Lp29_0_succ, lenA29, bind_some', bin_int, lssI, bind_some', boolB, bind_some', List.length_map]
      by_cases hj : i < rs.length
      · rw [ltT hj, condT, lenA23, bind_some', bin_int, lssI, bind_some', boolB, bind_some', List.length_map]
        by_cases hi : i < bs.length
        · rw [ltT hi, condT, indexA_map _ _ _ _ hj, bind_some', partA_full (Ty.cells_len _), bind_some', indexA_map _ _ _ _ hi, bind_some', Bind.len, show Nat.ble 1 6 = true from rfl, condT, Bind.p1, bind_some', aggS, bind_some', Ty.cells_len, show Nat.beq 5 5 = true from rfl, condT, aggS, bind_some', Ty.cells_len, show Nat.beq 5 5 = true from rfl, condT, mkSeal2]
          rw [show Nat.ble ((acc.map Seal.cells).length + ([(Seal.mk rs[i] bs[i].ty df nd).cells] : List (List AV)).length) maxApp = true from by
            rw [Nat.ble_eq]; unfold maxApp; simp; omega, condT, bin_int, addI, bind_some', incI (by omega)]
          rw [show acc.map Seal.cells ++ [(Seal.mk rs[i] bs[i].ty df nd).cells] = (acc ++ [Seal.mk rs[i] bs[i].ty df nd]).map Seal.cells from by simp]
          rw [ih (i + 1) _ hj (by omega) (by simp; omega), List.drop_eq_getElem_cons hi, List.drop_eq_getElem_cons hj, addL, List.append_assoc, List.singleton_append]
        · rw [ltF hi, condF, lenA22, bind_some', List.length_map, show bs.drop i = [] from List.drop_eq_nil_of_le (by omega)]
          have : ∀ x : List Ty, addL df nd x [] = [] := fun x => by cases x <;> rfl
          rw [this, List.append_nil]
      · rw [ltF hj, condF, lenA22, bind_some', List.length_map, show rs.drop i = [] from List.drop_eq_nil_of_le (by omega)]
        have : ∀ x : List Bind, addL df nd [] x = [] := fun x => by cases x <;> rfl
        rw [this, List.append_nil]
  refine evw_run primsC (rs.length + 1) rfl rfl rfl ?_
  rw [nf29, aggS, bind_some', show Nat.beq ([AV.lit (.string df), .lit (.int .i64 nd)] : List AV).length 2 = true from rfl, condT, slS, bind_some', show Nat.ble (([] : List (List AV)).length + (l.map Seal.cells).length) maxApp = true from by rw [Nat.ble_eq]; unfold maxApp; simp; omega, condT]
  have := loop (rs.length + 1) 0 l (Nat.zero_le _) (by omega) (by omega)
  rw [List.drop_zero, List.drop_zero, show ((0 : Nat) : Int) = 0 from rfl] at this
  exact this

/- opaque seals -/
theorem same_top (t : Ty) : t.same tyTop = (t.k == 4 && t.right) := by
  rw [Ty.same_eq, Ty.right_eq]
  show (!(t.k != 4) && !(t.n != 0) && strEq t.name ByteArray.empty && (decide (t.labels.length = 0) && sameS t.labels []) && decide (t.args.length = 0) && Ty.sameL t.args []) = _
  rw [Ty.sameL_nil]
  have es : sameS t.labels [] = true := by cases t.labels <;> rfl
  rw [es]
  by_cases hk : t.k = 4
  · rw [hk]
    unfold nodeR emptyS strEq
    have e1 : decide ((t.labels.length : Int) > 0) = !decide (t.labels.length = 0) := by
      by_cases h0 : t.labels.length = 0
      · rw [h0]; rfl
      · rw [decide_eq_true (show (t.labels.length : Int) > 0 by omega), decide_eq_false h0]; rfl
    have e2 : ((t.args.length : Int) == 0) = decide (t.args.length = 0) := by
      by_cases h0 : t.args.length = 0
      · rw [h0]; rfl
      · rw [beq_false_of_ne (show (t.args.length : Int) ≠ 0 by omega), decide_eq_false h0]
    rw [e1, e2]
    by_cases ha : t.args.length = 0
    · have : t.args = [] := List.length_eq_zero_iff.1 ha
      rw [this, Ty.rightL]
      simp only [show ((4 : Int) != 4) = false from rfl, show ((4 : Int) != 6) = true from rfl, show ((4 : Int) != 9) = true from rfl, show ((4 : Int) != 8) = true from rfl, show decide ((4 : Int) ≥ 1) = true from rfl, show decide ((4 : Int) ≤ 5) = true from rfl, bne]
      cases t.name.toList == ByteArray.empty.toList <;> cases t.n == 0 <;> cases decide (t.labels.length = 0) <;> rfl
    · rw [decide_eq_false ha]
      simp only [show decide ((4 : Int) ≥ 1) = true from rfl, show decide ((4 : Int) ≤ 5) = true from rfl, Bool.and_false, Bool.false_and, Bool.true_and, cond_true, Bool.and_self]
  · rw [beq_false_of_ne hk, show (t.k != 4) = true from by simpa using hk]; rfl

theorem opaque_prog (l : List Seal) (ok : ∀ s ∈ l, s.Ok) (n : Int) (h : Heap) : evw E 32 [.sl 12 (l.map Seal.cells), .lit (.int .i64 n)] h = some (.ret (.lit (.bool ((findT l n).2 && (findT l n).1.bound.same tyTop))), h) := by
  refine evw_run primsC 0 rfl rfl rfl ?_
  rw [nf32, find_spec, onOut_ret, tupS, bind_some']
  rw [show ([AV.agg (findT l n).1.cells, .lit (.bool (findT l n).2)] : List AV)[0]? = some (.agg (findT l n).1.cells) from rfl, bind_some', bind_some', show ([AV.agg (findT l n).1.cells, .lit (.bool (findT l n).2)] : List AV)[1]? = some (.lit (.bool (findT l n).2)) from rfl, bind_some', aggS, bind_some', Seal.len, show Nat.beq 12 12 = true from rfl, condT, boolB, bind_some', Seal.reBound, show (findT l n).1.cells.getD 5 .dead = (findT l n).1.bound.cells.getD 0 .dead from get_bound _ 0 (by decide), Ty.c0, same_top]
  cases hf : (findT l n).2 with
  | false => rfl
  | true =>
    rw [condT, bin_int, eqlI, bind_some', boolB, bind_some', pright_spec _ _ (findT_ok ok n hf).bound, onOut_ret]
    cases (findT l n).1.bound.k == 4 <;> rfl
theorem opaque_ref (l : List Seal) (ok : ∀ s ∈ l, s.Ok) (n : Int) (h : Heap) : evw E 33 [.sl 12 (l.map Seal.cells), .lit (.int .i64 n)] h = some (.ret (.lit (.bool ((findT l n).2 && (findT l n).1.bound.same tyTop))), h) := by
  have s69 : evw E 69 [] h = some (.ret (.agg tyTop.cells), h) := evk 5 (by kernel_rfl)
  refine evw_run primsC 0 rfl rfl rfl ?_
  rw [nf33, rfind_spec, onOut_ret, tupS, bind_some']
  rw [show ([AV.agg (findT l n).1.cells, .lit (.bool (findT l n).2)] : List AV)[0]? = some (.agg (findT l n).1.cells) from rfl, bind_some', bind_some', show ([AV.agg (findT l n).1.cells, .lit (.bool (findT l n).2)] : List AV)[1]? = some (.lit (.bool (findT l n).2)) from rfl, bind_some', aggS, bind_some', Seal.len, show Nat.beq 12 12 = true from rfl, condT, boolB, bind_some', Seal.reBound]
  cases hf : (findT l n).2 with
  | false => rfl
  | true => rw [condT, s69, onOut_ret, same_spec _ _ _ (findT_ok ok n hf).bound, onOut_ret, Bool.true_and]

/- seals in place of names -/
def idxR : List ByteArray → Int → ByteArray → Int
  | [], _, _ => -1
  | x :: r, i, s => bif strEq x s then i else idxR r (i + 1) s
theorem place_ref (l : List ByteArray) (hl : l.length ≤ maxLen) (s : ByteArray) (h : Heap) : evw E 157 [.sl 1 (l.map strC), .lit (.string s)] h = some (.ret (.lit (.int .i64 (idxR l 0 s))), h) := by
  have hl : l.length ≤ 9223372036854775807 := hl
  have loop : ∀ (q i : Nat), i ≤ l.length → l.length < q + i → Lp157_0 (evw E) (l.length + 1) h q h (.sl 1 (l.map strC)) (.lit (.string s)) (.lit (.int .i64 (i : Int))) = some (.ret (.lit (.int .i64 (idxR (l.drop i) i s))), h) := by
    intro q
    induction q with
    | zero => intro i h1 h2; omega
    | succ q ih =>
      intro i h1 h2
      rw [Lp157_0_succ, lenA31, bind_some', bin_int, lssI, bind_some', boolB, bind_some', List.length_map]
      by_cases hi : i < l.length
      · rw [ltT hi, condT, indexA_map _ _ _ _ hi, bind_some', part_str, bind_some', eqS, bind_some', boolB, bind_some', List.drop_eq_getElem_cons hi, idxR]
        cases strEq l[i] s with
        | true => rfl
        | false => rw [condF, condF, bin_int, addI, bind_some', incI (by omega)]; exact ih (i + 1) hi (by omega)
      · rw [ltF hi, condF, show l.drop i = [] from List.drop_eq_nil_of_le (by omega), idxR]
  refine evw_run primsC (l.length + 1) rfl rfl rfl ?_
  rw [nf157]
  have := loop (l.length + 1) 0 (Nat.zero_le _) (by omega)
  rw [List.drop_zero, show ((0 : Nat) : Int) = 0 from rfl] at this
  exact this
theorem index_prog (l : List ByteArray) (hl : l.length ≤ maxLen) (s : ByteArray) (h : Heap) : evw E 139 [.sl 1 (l.map strC), .lit (.string s)] h = some (.ret (.lit (.int .i64 (idxR l 0 s))), h) := by
  have hl : l.length ≤ 9223372036854775807 := hl
  have loop : ∀ (q i : Nat), i ≤ l.length → l.length < q + i → Lp139_0 (evw E) (l.length + 1) h q h (.sl 1 (l.map strC)) (.lit (.string s)) (.lit (.int .i64 (l.length : Int))) (.lit (.int .i64 (i : Int))) = some (.ret (.lit (.int .i64 (idxR (l.drop i) i s))), h) := by
    intro q
    induction q with
    | zero => intro i h1 h2; omega
    | succ q ih =>
      intro i h1 h2
      rw [Lp139_0_succ, bin_int, lssI, bind_some', boolB, bind_some']
      by_cases hi : i < l.length
      · rw [ltT hi, condT, indexA_map _ _ _ _ hi, bind_some', part_str, bind_some', eqS, bind_some', boolB, bind_some', List.drop_eq_getElem_cons hi, idxR, strEq_comm s l[i]]
        cases strEq l[i] s with
        | true => rfl
        | false => rw [condF, condF, bin_int, addI, bind_some', incI (by omega)]; exact ih (i + 1) hi (by omega)
      · rw [ltF hi, condF, show l.drop i = [] from List.drop_eq_nil_of_le (by omega), idxR]
  refine evw_run primsC (l.length + 1) rfl rfl rfl ?_
  rw [nf139, lenA31, bind_some', List.length_map]
  have := loop (l.length + 1) 0 (Nat.zero_le _) (by omega)
  rw [List.drop_zero, show ((0 : Nat) : Int) = 0 from rfl] at this
  exact this

mutual
def Ty.sealed (names : List ByteArray) (from' : Int) : Ty → Ty
  | ⟨k, n, s, ls, xs⟩ => bif k == 6 && decide (idxR names 0 s ≥ 0) then tySl (add64 from' (idxR names 0 s)) else ⟨k, n, s, ls, Ty.sealedL names from' xs⟩
def Ty.sealedL (names : List ByteArray) (from' : Int) : List Ty → List Ty
  | [] => []
  | t :: r => t.sealed names from' :: Ty.sealedL names from' r
end
theorem Ty.sealedL_map (names : List ByteArray) (from' : Int) : ∀ l : List Ty, Ty.sealedL names from' l = l.map (Ty.sealed names from')
  | [] => by rw [Ty.sealedL]; rfl
  | t :: r => by rw [Ty.sealedL, Ty.sealedL_map names from' r]; rfl
theorem Ty.sealed_eq (names : List ByteArray) (from' : Int) (t : Ty) : t.sealed names from' = bif t.k == 6 && decide (idxR names 0 t.name ≥ 0) then tySl (add64 from' (idxR names 0 t.name)) else ⟨t.k, t.n, t.name, t.labels, t.args.map (Ty.sealed names from')⟩ := by cases t; rw [Ty.sealed, Ty.sealedL_map]
theorem volL_len : ∀ l : List Ty, l.length ≤ Ty.volL l
  | [] => Nat.le_refl _
  | t :: r => by have := volL_len r; have := Ty.vol_eq t; rw [Ty.volL, List.length_cons]; omega
theorem volL_get : ∀ (l : List Ty) (i : Nat) (h : i < l.length), (l[i]).vol ≤ Ty.volL l
  | t :: r, 0, _ => by rw [Ty.volL]; exact Nat.le_add_right _ _
  | t :: r, i + 1, h => by
    have := volL_get r i (by simpa using h)
    rw [Ty.volL, List.getElem_cons_succ]; omega

theorem sealed_ref (names : List ByteArray) (hn : names.length ≤ maxLen) (fr : Int) : ∀ (t : Ty) (h : Heap), t.Ok → t.vol ≤ 1048576 → evw E 140 [.agg t.cells, .sl 1 (names.map strC), .lit (.int .i64 fr)] h = some (.ret (.agg (t.sealed names fr).cells), h)
  | t, h, ok, hv => by
    have hve := Ty.vol_eq t
    have hvl := volL_len t.args
    have loop : ∀ (m i : Nat), i ≤ t.args.length → t.args.length < m + i → Lp140_0 (evw E) (t.args.length + 1) h m h (.sl 1 (names.map strC)) (.lit (.int .i64 fr)) (.lit (.int .i64 t.k)) (.lit (.int .i64 t.n)) (.lit (.string t.name)) (.sl 1 (t.labels.map strC)) (.sl 5 (t.args.map Ty.cells)) (.lit (.int .i64 0)) (.lit (.int .i64 0)) (.lit (.string ByteArray.empty)) [] [] (.lit (.int .i64 t.k)) (.lit (.int .i64 t.n)) (.lit (.string t.name)) (.sl 1 (t.labels.map strC)) (((t.args.take i).map (Ty.sealed names fr)).map Ty.cells) (.lit (.int .i64 (i : Int))) = some (.ret (.agg (⟨t.k, t.n, t.name, t.labels, t.args.map (Ty.sealed names fr)⟩ : Ty).cells), h) := by
      intro m
      induction m with
      | zero => intro i h1 h2; omega
      | succ m ih =>
        intro i h1 h2
        rw [Lp140_0_succ, lenA29, bind_some', bin_int, lssI, bind_some', boolB, bind_some', List.length_map]
        by_cases hi : i < t.args.length
        · have hg := volL_get t.args i hi
          have hrec := sealed_ref names hn fr (t.args[i]) h (ok.arg (List.getElem_mem hi)) (by omega)
          rw [ltT hi, condT, indexA_map _ _ _ _ hi, bind_some', partA_full (Ty.cells_len _), bind_some', hrec, onOut_ret, aggS, bind_some', Ty.cells_len, show Nat.beq 5 5 = true from rfl, condT, Ty.refold]
          rw [show Nat.ble ((((t.args.take i).map (Ty.sealed names fr)).map Ty.cells).length + ([((t.args[i]).sealed names fr).cells] : List (List AV)).length) maxApp = true from by rw [Nat.ble_eq]; unfold maxApp; simp; omega, condT, bin_int, addI, bind_some', incI (by omega)]
          rw [show ((t.args.take i).map (Ty.sealed names fr)).map Ty.cells ++ [((t.args[i]).sealed names fr).cells] = ((t.args.take (i + 1)).map (Ty.sealed names fr)).map Ty.cells from by
            rw [show t.args.take (i + 1) = t.args.take i ++ [t.args[i]] from by rw [List.take_add_one, List.getElem?_eq_getElem hi]; rfl, List.map_append, List.map_append]; rfl]
          exact ih (i + 1) hi (by omega)
        · have hi' : i = t.args.length := by omega
          subst hi'
          rw [ltF hi, condF, List.take_length, ← Ty.fold]
    have l0 := loop (t.args.length + 1) 0 (Nat.zero_le _) (by omega)
    rw [List.take_zero, show ((0 : Nat) : Int) = 0 from rfl, show ((([] : List Ty).map (Ty.sealed names fr)).map Ty.cells) = [] from rfl] at l0
    refine evw_run primsC (t.args.length + 1) rfl rfl rfl ?_
    rw [nf140, aggS, bind_some', Ty.cells_len, show Nat.beq 5 5 = true from rfl, condT, Ty.c0, Ty.c1, Ty.c2, Ty.c3, Ty.c4, bin_int, eqlI, bind_some', boolB, bind_some', Ty.sealed_eq]
    cases t.k == 6 with
    | false => rw [condF, Bool.false_and, cond_false]; exact l0
    | true =>
      rw [condT, place_ref names hn, onOut_ret, bin_int, geqI, bind_some', boolB, bind_some', Bool.true_and]
      cases decide (idxR names 0 t.name ≥ 0) with
      | false => rw [condF, cond_false]; exact l0
      | true =>
        have s73 : ∀ x : Int, evw E 73 [.lit (.int .i64 x)] h = some (.ret (.agg (tySl x).cells), h) := fun x => evk 5 (by kernel_rfl)
        rw [condT, cond_true, bin_int, addI, bind_some', s73, onOut_ret, aggS, bind_some', Ty.cells_len, show Nat.beq 5 5 = true from rfl, condT, Ty.refold]
  termination_by t => SizeOf.sizeOf t
  decreasing_by exact Ty.size_arg hi

def sealT (names : List ByteArray) (fr : Int) (t : Ty) : Ty := bif decide (fr < 0) || decide (fr > sub64 1073741824 (names.length : Int)) then t else t.sealed names fr

theorem seal_ref (names : List ByteArray) (hn : names.length ≤ maxLen) (fr : Int) (t : Ty) (h : Heap) (ok : t.Ok) (hv : t.vol ≤ 1048576) : evw E 35 [.agg t.cells, .sl 1 (names.map strC), .lit (.int .i64 fr)] h = some (.ret (.agg (sealT names fr t).cells), h) := by
  have h87 : evw E 87 [.agg t.cells, .sl 1 (names.map strC), .lit (.int .i64 fr)] h = some (.ret (.agg (sealT names fr t).cells), h) := by
    refine evw_run primsC 0 rfl rfl rfl ?_
    rw [nf87, aggS, bind_some', Ty.cells_len, show Nat.beq 5 5 = true from rfl, condT, Ty.refold, bin_int, lssI, bind_some', boolB, bind_some']
    unfold sealT
    cases decide (fr < 0) with
    | true => rfl
    | false =>
      rw [condF, lenA31, bind_some', bin_int, subI, bind_some', bin_int, gtrI, bind_some', boolB, bind_some', List.length_map, Bool.false_or]
      cases decide (fr > sub64 1073741824 (names.length : Int)) with
      | true => rfl
      | false => rw [condF, cond_false, sealed_ref names hn fr t h ok hv, onOut_ret, aggS, bind_some', Ty.cells_len, show Nat.beq 5 5 = true from rfl, condT, Ty.refold]
  refine evw_run primsC 0 rfl rfl rfl ?_
  rw [nf35, aggS, bind_some', Ty.cells_len, show Nat.beq 5 5 = true from rfl, condT, Ty.refold, h87, onOut_ret, aggS, bind_some', Ty.cells_len, show Nat.beq 5 5 = true from rfl, condT, Ty.refold]
end Go.Sh.T

namespace Go.Sh.T
open Go Go.Sh
set_option linter.unusedSimpArgs false
set_option linter.unusedVariables false
set_option maxRecDepth 100000

theorem seal_prog86 (names : List ByteArray) (hn : names.length ≤ maxLen) (fr : Int) : ∀ (t : Ty) (h : Heap), t.Ok → t.vol ≤ 1048576 → evw E 86 [.agg t.cells, .sl 1 (names.map strC), .lit (.int .i64 fr)] h = some (.ret (.agg (sealT names fr t).cells), h)
  | t, h, ok, hv => by
    have hve := Ty.vol_eq t
    have hvl := volL_len t.args
    by_cases hr : (decide (fr < 0) || decide (fr > sub64 1073741824 (names.length : Int))) = true
    · refine evw_run primsC 0 rfl rfl rfl ?_
      rw [nf86, aggS, bind_some', Ty.cells_len, show Nat.beq 5 5 = true from rfl, condT, Ty.refold, bin_int, lssI, bind_some', boolB, bind_some']
      rw [show sealT names fr t = t from by unfold sealT; rw [hr]; rfl]
      cases h1 : decide (fr < 0) with
      | true => rfl
      | false =>
        rw [h1, Bool.false_or] at hr
        rw [condF, lenA31, bind_some', bin_int, subI, bind_some', bin_int, gtrI, bind_some', boolB, bind_some', List.length_map, hr]; rfl
    · have hr : (decide (fr < 0) || decide (fr > sub64 1073741824 (names.length : Int))) = false := by simpa using hr
      have hs : ∀ u : Ty, sealT names fr u = u.sealed names fr := fun u => by unfold sealT; rw [hr]; rfl
      rw [Bool.or_eq_false_iff] at hr
      have loop : ∀ (m i : Nat), i ≤ t.args.length → t.args.length < m + i → Lp86_0 (evw E) (t.args.length + 1) h m h (.sl 1 (names.map strC)) (.lit (.int .i64 fr)) (.lit (.int .i64 0)) (.lit (.int .i64 0)) (.lit (.string ByteArray.empty)) [] [] (.lit (.int .i64 t.k)) (.lit (.int .i64 t.n)) (.lit (.string t.name)) (.sl 1 (t.labels.map strC)) (((t.args.take i).map (Ty.sealed names fr)).map Ty.cells) (.sl 5 (t.args.map Ty.cells)) (.lit (.int .i64 (t.args.length : Int))) (.lit (.int .i64 (i : Int))) = some (.ret (.agg (⟨t.k, t.n, t.name, t.labels, t.args.map (Ty.sealed names fr)⟩ : Ty).cells), h) := by
        intro m
        induction m with
        | zero => intro i h1 h2; omega
        | succ m ih =>
          intro i h1 h2
          rw [Lp86_0_succ, bin_int, lssI, bind_some', boolB, bind_some']
          by_cases hi : i < t.args.length
          · have hg := volL_get t.args i hi
            have hrec := seal_prog86 names hn fr (t.args[i]) h (ok.arg (List.getElem_mem hi)) (by omega)
            rw [hs] at hrec
            rw [ltT hi, condT, indexA_map _ _ _ _ hi, bind_some', partA_full (Ty.cells_len _), bind_some', aggS, bind_some', Ty.cells_len, show Nat.beq 5 5 = true from rfl, condT, Ty.refold, hrec, onOut_ret, aggS, bind_some', Ty.cells_len, show Nat.beq 5 5 = true from rfl, condT, Ty.refold]
            rw [show Nat.ble ((((t.args.take i).map (Ty.sealed names fr)).map Ty.cells).length + ([((t.args[i]).sealed names fr).cells] : List (List AV)).length) maxApp = true from by rw [Nat.ble_eq]; unfold maxApp; simp; omega, condT, bin_int, addI, bind_some', incI (by omega)]
            rw [show ((t.args.take i).map (Ty.sealed names fr)).map Ty.cells ++ [((t.args[i]).sealed names fr).cells] = ((t.args.take (i + 1)).map (Ty.sealed names fr)).map Ty.cells from by
              rw [show t.args.take (i + 1) = t.args.take i ++ [t.args[i]] from by rw [List.take_add_one, List.getElem?_eq_getElem hi]; rfl, List.map_append, List.map_append]; rfl]
            exact ih (i + 1) hi (by omega)
          · have hi' : i = t.args.length := by omega
            subst hi'
            rw [ltF hi, condF, List.take_length, ← Ty.fold]
      have l0 := loop (t.args.length + 1) 0 (Nat.zero_le _) (by omega)
      rw [List.take_zero, show ((0 : Nat) : Int) = 0 from rfl, show ((([] : List Ty).map (Ty.sealed names fr)).map Ty.cells) = [] from rfl] at l0
      refine evw_run primsC (t.args.length + 1) rfl rfl rfl ?_
      rw [nf86, aggS, bind_some', Ty.cells_len, show Nat.beq 5 5 = true from rfl, condT, Ty.refold, bin_int, lssI, bind_some', boolB, bind_some', hr.1, condF, lenA31, bind_some', bin_int, subI, bind_some', bin_int, gtrI, bind_some', boolB, bind_some', List.length_map, hr.2, condF, Ty.c2, index_prog names hn, onOut_ret, Ty.c0, Ty.c1, Ty.c3, Ty.c4, bin_int, eqlI, bind_some', boolB, bind_some', hs, Ty.sealed_eq, lenA29, bind_some', List.length_map]
      cases t.k == 6 with
      | false => rw [condF, Bool.false_and, cond_false]; exact l0
      | true =>
        rw [condT, bin_int, geqI, bind_some', boolB, bind_some', Bool.true_and]
        cases decide (idxR names 0 t.name ≥ 0) with
        | false => rw [condF, cond_false]; exact l0
        | true =>
          rw [condT, cond_true, bin_int, addI, bind_some', show AV.one (.lit (.int .i64 (add64 fr (idxR names 0 t.name)))) = true from rfl, condT]
          rw [show (tySl (add64 fr (idxR names 0 t.name))).cells = _ from Ty.cells_eq _]
          rfl
  termination_by t => SizeOf.sizeOf t
  decreasing_by exact Ty.size_arg hi

theorem seal_prog (names : List ByteArray) (hn : names.length ≤ maxLen) (fr : Int) (t : Ty) (h : Heap) (ok : t.Ok) (hv : t.vol ≤ 1048576) : evw E 34 [.agg t.cells, .sl 1 (names.map strC), .lit (.int .i64 fr)] h = some (.ret (.agg (sealT names fr t).cells), h) := by
  refine evw_run primsC 0 rfl rfl rfl ?_
  rw [nf34, aggS, bind_some', Ty.cells_len, show Nat.beq 5 5 = true from rfl, condT, Ty.refold, seal_prog86 names hn fr t h ok hv, onOut_ret, aggS, bind_some', Ty.cells_len, show Nat.beq 5 5 = true from rfl, condT, Ty.refold]

/- what is full, as the document has it -/
theorem overTL_neg (rec : Nat → Ty → Int → Ty × Int) (l : List Seal) (b : Nat) (left : Int) (h : left < 0) (r : List Ty) (acc : List Ty) : overTL rec l b r left acc = (acc, left) := by
  cases r with
  | nil => rw [overTL]
  | cons t r => rw [overTL, decide_eq_true h, cond_true]
theorem over_neg (l : List Seal) : ∀ (f b : Nat) (t : Ty) (left : Int), left < 0 → (over l f b t left).2 < 0
  | 0, b, t, left, _ => by show (-1 : Int) < 0; omega
  | f + 1, b, t, left, h => by
    rw [over, overT_eq]
    cases t.k == 9 with
    | true =>
      rw [cond_true]
      cases (findT l t.n).2 && decide (t.n < (b : Int)) with
      | true => exact over_neg l f _ _ left h
      | false => show (-1 : Int) < 0; omega
    | false => rw [cond_false, overTL_neg _ _ _ _ (by omega)]; show left - 1 < 0; omega

theorem cntL_get : ∀ (l : List Ty) (i : Nat) (h : i < l.length), (l[i]).cnt ≤ Ty.cntL l
  | t :: r, 0, _ => by rw [Ty.cntL]; exact Nat.le_add_right _ _
  | t :: r, i + 1, h => by
    have := cntL_get r i (by simpa using h)
    rw [Ty.cntL, List.getElem_cons_succ]; omega
theorem cntL_len : ∀ l : List Ty, l.length ≤ Ty.cntL l
  | [] => Nat.le_refl _
  | t :: r => by have := cntL_len r; have := Ty.cnt_eq t; rw [Ty.cntL, List.length_cons]; omega

def tup3 (u : Ty) (r : Int) (b : Bool) : AV := .tup [.agg u.cells, .lit (.int .i64 r), .lit (.bool b)]

theorem full_ref84 (l : List Seal) (hll : l.length ≤ 9223372036854775807) (ok : ∀ s ∈ l, s.Ok) (C : Nat) (hC : C ≤ 2000000) (hcl : ∀ s ∈ l, s.rep.cnt ≤ C) (h : Heap) : ∀ (f b : Nat) (t : Ty) (left : Int), t.Ok → t.cnt ≤ C → b < f → b ≤ 1000000000 → left ≤ 300 → -9000000000000000000 + (t.cnt + f * C : Nat) ≤ left → f ≤ 1000000001 →
    ∃ (u : Ty) (r : Int), evw E 84 [.sl 12 (l.map Seal.cells), .agg t.cells, .lit (.int .i64 (b : Int)), .lit (.int .i64 left)] h = some (.ret (tup3 u r (decide (0 ≤ (over l f b t left).2))), h) ∧ (0 ≤ (over l f b t left).2 → u = (over l f b t left).1 ∧ r = (over l f b t left).2)
  | 0, b, t, left, _, _, hb, _, _, _, _ => by omega
  | f + 1, b, t, left, ot, hc, hb, hbl, hl1, hlo, hf1 => by
    have inner : ∀ (t : Ty) (left : Int), t.Ok → t.cnt ≤ C → left ≤ 300 → -9000000000000000000 + (t.cnt + (f + 1) * C : Nat) ≤ left →
        ∃ (u : Ty) (r : Int), evw E 84 [.sl 12 (l.map Seal.cells), .agg t.cells, .lit (.int .i64 (b : Int)), .lit (.int .i64 left)] h = some (.ret (tup3 u r (decide (0 ≤ (overT (over l f) l b t left).2))), h) ∧ (0 ≤ (overT (over l f) l b t left).2 → u = (overT (over l f) l b t left).1 ∧ r = (overT (over l f) l b t left).2) := by
      intro t
      induction hsz : SizeOf.sizeOf t using Nat.strongRecOn generalizing t with
      | ind sz ihs =>
      intro left ot hc hl1 hlo
      subst hsz
      have hce := Ty.cnt_eq t
      have hlc := cntL_len t.args
      have negT : ∀ (a : Ty) (lf : Int), lf < 0 → (overT (over l f) l b a lf).2 < 0 := fun a lf hn => over_neg l (f + 1) b a lf hn
      have loop : ∀ (m i : Nat) (acc : List Ty) (lf : Int), i ≤ t.args.length → t.args.length < m + i → acc.length = i → lf ≤ 300 → (lf < 0 → i = 0 ∧ lf = left - 1) → ∃ (u : Ty) (r : Int),
          Lp84_0 (evw E) (t.args.length + 1) h m h (.sl 12 (l.map Seal.cells)) (.lit (.int .i64 (b : Int))) (.lit (.int .i64 t.k)) (.lit (.int .i64 t.n)) (.lit (.string t.name)) (.sl 1 (t.labels.map strC)) (.sl 5 (t.args.map Ty.cells)) (.lit (.int .i64 0)) (.lit (.int .i64 0)) (.lit (.string ByteArray.empty)) [] [] (.lit (.int .i64 lf)) (.lit (.int .i64 t.k)) (.lit (.int .i64 t.n)) (.lit (.string t.name)) (.sl 1 (t.labels.map strC)) (acc.map Ty.cells) (.lit (.int .i64 (i : Int))) =
            some (.ret (tup3 u r (decide (0 ≤ (overTL (over l f) l b (t.args.drop i) lf acc).2))), h) ∧ (0 ≤ (overTL (over l f) l b (t.args.drop i) lf acc).2 → u = ⟨t.k, t.n, t.name, t.labels, (overTL (over l f) l b (t.args.drop i) lf acc).1⟩ ∧ r = (overTL (over l f) l b (t.args.drop i) lf acc).2) := by
        intro m
        induction m with
        | zero => intro i acc lf h1 h2; omega
        | succ m ih =>
          intro i acc lf h1 h2 hacc hlf hneg
          rw [Lp84_0_succ, lenA29, bind_some', bin_int, lssI, bind_some', boolB, bind_some', List.length_map]
          by_cases hi : i < t.args.length
          · have oa := ot.arg (List.getElem_mem hi)
            have hca := cntL_get t.args i hi
            have hlo2 : -9000000000000000000 + ((t.args[i]).cnt + (f + 1) * C : Nat) ≤ lf := by
              by_cases hz : lf < 0
              · have := (hneg hz).2; omega
              · have : (f + 1) * C ≤ 1000000001 * 2000000 := Nat.mul_le_mul hf1 hC
                omega
            obtain ⟨u, r, hrec, hval⟩ := ihs _ (Ty.size_arg hi) t.args[i] rfl lf oa (by omega) hlf hlo2
            rw [ltT hi, condT, indexA_map _ _ _ _ hi, bind_some', partA_full (Ty.cells_len _), bind_some', hrec, onOut_ret, List.drop_eq_getElem_cons hi, overTL]
            unfold tup3
            rw [tupS, bind_some', show ([AV.agg u.cells, .lit (.int .i64 r), .lit (.bool (decide (0 ≤ (overT (over l f) l b t.args[i] lf).2)))] : List AV)[0]? = some (.agg u.cells) from rfl, bind_some', bind_some', show ([AV.agg u.cells, .lit (.int .i64 r), .lit (.bool (decide (0 ≤ (overT (over l f) l b t.args[i] lf).2)))] : List AV)[1]? = some (.lit (.int .i64 r)) from rfl, bind_some', bind_some', show ([AV.agg u.cells, .lit (.int .i64 r), .lit (.bool (decide (0 ≤ (overT (over l f) l b t.args[i] lf).2)))] : List AV)[2]? = some (.lit (.bool (decide (0 ≤ (overT (over l f) l b t.args[i] lf).2)))) from rfl, bind_some', aggS, bind_some', Ty.cells_len, show Nat.beq 5 5 = true from rfl, condT, notB, bind_some', boolB, bind_some']
            by_cases hok : 0 ≤ (overT (over l f) l b t.args[i] lf).2
            · obtain ⟨rfl, rfl⟩ := hval hok
              have hz : ¬ lf < 0 := fun hz => by have := negT t.args[i] lf hz; omega
              obtain ⟨g1, g2⟩ := overT_left (l := l) (over_left l f) b t.args[i] lf (by omega)
              rw [decide_eq_true hok, Bool.not_true, condF, bin_int, lssI, bind_some', boolB, bind_some', decide_eq_false (show ¬ (overT (over l f) l b t.args[i] lf).2 < 0 by omega), condF, Ty.refold, decide_eq_false hz, cond_false]
              rw [show Nat.ble ((acc.map Ty.cells).length + ([(overT (over l f) l b t.args[i] lf).1.cells] : List (List AV)).length) maxApp = true from by rw [Nat.ble_eq]; unfold maxApp; simp; omega, condT, bin_int, addI, bind_some', incI (by omega)]
              rw [show acc.map Ty.cells ++ [(overT (over l f) l b t.args[i] lf).1.cells] = (acc ++ [(overT (over l f) l b t.args[i] lf).1]).map Ty.cells from by simp]
              exact ih (i + 1) (acc ++ [(overT (over l f) l b t.args[i] lf).1]) _ hi (by omega) (by simp; omega) (by omega) (fun e => by omega)
            · have hfin : ¬ 0 ≤ (bif decide (lf < 0) then (acc, lf) else overTL (over l f) l b (t.args.drop (i + 1)) (overT (over l f) l b t.args[i] lf).2 (acc ++ [(overT (over l f) l b t.args[i] lf).1])).2 := by
                by_cases hz : lf < 0
                · rw [decide_eq_true hz]; show ¬ 0 ≤ lf; omega
                · rw [decide_eq_false hz, cond_false, overTL_neg _ _ _ _ (by omega)]; exact hok
              refine ⟨zeroTy, 0, ?_, fun e => absurd e hfin⟩
              rw [decide_eq_false hok, Bool.not_false, condT, ← zeroTy_cells]
              show _ = some (Out.ret (.tup [.agg zeroTy.cells, .lit (.int .i64 0), .lit (.bool (decide (0 ≤ (bif decide (lf < 0) then (acc, lf) else overTL (over l f) l b (t.args.drop (i + 1)) (overT (over l f) l b t.args[i] lf).2 (acc ++ [(overT (over l f) l b t.args[i] lf).1])).2)))]), h)
              rw [decide_eq_false hfin]
          · refine ⟨⟨t.k, t.n, t.name, t.labels, acc⟩, lf, ?_, fun _ => ?_⟩
            · rw [ltF hi, condF, bin_int, geqI, bind_some', List.drop_of_length_le (by omega), overTL, Ty.fold]; rfl
            · rw [List.drop_of_length_le (by omega), overTL]; exact ⟨rfl, rfl⟩
      rw [overT_eq]
      cases hk : t.k == 9 with
      | false =>
        rw [cond_false]
        have hsub : sub64 left 1 = left - 1 := by unfold sub64; rw [IntWalk.i64_in _ (by omega)]
        obtain ⟨u, r, hl, hv⟩ := loop (t.args.length + 1) 0 [] (left - 1) (Nat.zero_le _) (by omega) rfl (by omega) (fun _ => ⟨rfl, rfl⟩)
        rw [List.drop_zero, show ((0 : Nat) : Int) = 0 from rfl] at hl
        rw [List.drop_zero] at hv
        refine ⟨u, r, ?_, hv⟩
        refine evw_run primsC (t.args.length + 1) rfl rfl rfl ?_
        rw [nf84, aggS, bind_some', Ty.cells_len, show Nat.beq 5 5 = true from rfl, condT, Ty.c0, Ty.c1, Ty.c2, Ty.c3, Ty.c4, bin_int, eqlI, bind_some', boolB, bind_some', hk, condF, bin_int, subI, bind_some', hsub]
        exact hl
      | true =>
        rw [cond_true]
        cases hfd : (findT l t.n).2 && decide (t.n < (b : Int)) with
        | false =>
          refine ⟨zeroTy, 0, ?_, fun e => absurd (show (0 : Int) ≤ -1 from e) (by omega)⟩
          refine evw_run primsC 0 rfl rfl rfl ?_
          rw [nf84, aggS, bind_some', Ty.cells_len, show Nat.beq 5 5 = true from rfl, condT, Ty.c0, Ty.c1, bin_int, eqlI, bind_some', boolB, bind_some', hk, condT, bin_int, lssI, bind_some', boolB, bind_some', ← zeroTy_cells]
          have fin : (some (Out.ret (.tup [.agg zeroTy.cells, .lit (.int .i64 0), .lit (.bool false)]), h) : R) = some (.ret (tup3 zeroTy 0 (decide (0 ≤ (zeroTy, (-1 : Int)).2))), h) := rfl
          refine cond_split (fun _ => fin) fun h1 => ?_
          rw [bin_int, geqI, bind_some', boolB, bind_some']
          refine cond_split (fun _ => fin) fun h2 => ?_
          rw [lenA22, bind_some', bin_int, geqI, bind_some', boolB, bind_some', List.length_map]
          refine cond_split (fun _ => fin) fun h3 => ?_
          exfalso
          have e1 : ¬ t.n < 0 := of_decide_eq_false h1
          have e2 : ¬ t.n ≥ (b : Int) := of_decide_eq_false h2
          have e3 : ¬ t.n ≥ (l.length : Int) := of_decide_eq_false h3
          obtain ⟨q, hq⟩ : ∃ q : Nat, t.n = (q : Int) := ⟨t.n.toNat, by omega⟩
          rw [hq, findT_in (show q < l.length by omega)] at hfd
          rw [decide_eq_true (show (q : Int) < (b : Int) by omega)] at hfd
          cases hfd
        | true =>
          rw [cond_true]
          rw [Bool.and_eq_true] at hfd
          have e2 : t.n < (b : Int) := of_decide_eq_true hfd.2
          have hq0 : 0 ≤ t.n ∧ t.n.toNat < l.length := by
            have := hfd.1
            unfold findT at this
            split at this
            · assumption
            · cases this
          obtain ⟨q, hq⟩ : ∃ q : Nat, t.n = (q : Int) := ⟨t.n.toNat, by omega⟩
          have hql : q < l.length := by omega
          have hfq : findT l t.n = (l[q], true) := by rw [hq]; exact findT_in hql
          have hcr := hcl _ (List.getElem_mem hql)
          have hmul : (f + 1) * C = f * C + C := Nat.succ_mul f C
          obtain ⟨u, r, hrec, hval⟩ := full_ref84 l hll ok C hC hcl h f q l[q].rep left (ok _ (List.getElem_mem hql)).rep hcr (by omega) (by omega) hl1 (by omega) (by omega)
          rw [hfq, show t.n.toNat = q from by omega]
          refine ⟨u, r, ?_, hval⟩
          refine evw_run primsC 0 rfl rfl rfl ?_
          rw [nf84, aggS, bind_some', Ty.cells_len, show Nat.beq 5 5 = true from rfl, condT, Ty.c0, Ty.c1, bin_int, eqlI, bind_some', boolB, bind_some', hk, condT, bin_int, lssI, bind_some', boolB, bind_some', hq, decide_eq_false (show ¬ (q : Int) < 0 by omega), condF, bin_int, geqI, bind_some', boolB, bind_some', decide_eq_false (show ¬ (q : Int) ≥ (b : Int) by omega), condF, lenA22, bind_some', bin_int, geqI, bind_some', boolB, bind_some', List.length_map, decide_eq_false (show ¬ (q : Int) ≥ (l.length : Int) by omega), condF, indexA_map _ _ _ _ hql, bind_some', Seal.len, show Nat.ble 0 12 = true from rfl, condT, Seal.p0, bind_some', hrec, onOut_ret]
          unfold tup3
          rw [tupS, bind_some', show ([AV.agg u.cells, .lit (.int .i64 r), .lit (.bool (decide (0 ≤ (over l f q l[q].rep left).2)))] : List AV)[0]? = some (.agg u.cells) from rfl, bind_some', bind_some', show ([AV.agg u.cells, .lit (.int .i64 r), .lit (.bool (decide (0 ≤ (over l f q l[q].rep left).2)))] : List AV)[1]? = some (.lit (.int .i64 r)) from rfl, bind_some', bind_some', show ([AV.agg u.cells, .lit (.int .i64 r), .lit (.bool (decide (0 ≤ (over l f q l[q].rep left).2)))] : List AV)[2]? = some (.lit (.bool (decide (0 ≤ (over l f q l[q].rep left).2)))) from rfl, bind_some', aggS, bind_some', Ty.cells_len, show Nat.beq 5 5 = true from rfl, condT, Ty.refold]
    rw [over]
    exact inner t left ot hc hl1 hlo
end Go.Sh.T

namespace Go.Sh.T
open Go Go.Sh
set_option linter.unusedSimpArgs false
set_option linter.unusedVariables false
set_option maxRecDepth 100000

mutual
theorem cnt_vol : ∀ t : Ty, t.cnt ≤ t.vol
  | ⟨k, n, s, ls, xs⟩ => by
    rw [Ty.vol_eq, Ty.cnt]
    have := cntL_vol xs
    simp only
    omega
theorem cntL_vol : ∀ l : List Ty, Ty.cntL l ≤ Ty.volL l
  | [] => by rw [Ty.cntL, Ty.volL]; exact Nat.le_refl _
  | t :: r => by
    have h1 := cnt_vol t; have h2 := cntL_vol r
    rw [Ty.cntL, Ty.volL]; omega
end

def Seal.vol (s : Seal) : Nat := volC s.cells
theorem seal_rep_vol (s : Seal) : s.rep.vol ≤ s.vol := by
  unfold Seal.vol Seal.cells Ty.vol
  rw [volC_append]; exact Nat.le_add_right _ _
theorem seals_vol : ∀ (l : List Seal) (s : Seal), s ∈ l → s.vol ≤ volE (l.map Seal.cells)
  | x :: r, s, h => by
    rw [List.map_cons, volE]
    rcases List.mem_cons.1 h with e | e
    · rw [e]; exact Nat.le_add_right _ _
    · have := seals_vol r s e; omega

theorem full_ref (l : List Seal) (hl : l.length ≤ 12) (ok : ∀ s ∈ l, s.Ok) (hv : volE (l.map Seal.cells) ≤ 1048576) (t : Ty) (ot : t.Ok) (htv : t.vol ≤ 1048576) (h : Heap) : evw E 31 [.sl 12 (l.map Seal.cells), .agg t.cells] h = some (.ret (.tup [.agg (fullT l t).1.cells, .lit (.bool (fullT l t).2)]), h) := by
  have hc := cnt_vol t
  have hcl : ∀ s ∈ l, s.rep.cnt ≤ 1048576 := fun s hs => by
    have h1 := cnt_vol s.rep; have h2 := seal_rep_vol s; have h3 := seals_vol l s hs
    omega
  obtain ⟨u, r, h84, hval⟩ := full_ref84 l (by omega) ok 1048576 (by omega) hcl h (l.length + 1) l.length t 300 ot (by omega) (by omega) (by omega) (by omega) (by
    have : (l.length + 1) * 1048576 ≤ 13 * 1048576 := Nat.mul_le_mul (by omega) (Nat.le_refl _)
    omega) (by omega)
  refine evw_run primsC 0 rfl rfl rfl ?_
  rw [nf31, aggS, bind_some', Ty.cells_len, show Nat.beq 5 5 = true from rfl, condT, lenA22, bind_some', List.length_map, Ty.refold, h84, onOut_ret]
  unfold tup3
  rw [tupS, bind_some', show ([AV.agg u.cells, .lit (.int .i64 r), .lit (.bool (decide (0 ≤ (over l (l.length + 1) l.length t 300).2)))] : List AV)[0]? = some (.agg u.cells) from rfl, bind_some', bind_some', show ([AV.agg u.cells, .lit (.int .i64 r), .lit (.bool (decide (0 ≤ (over l (l.length + 1) l.length t 300).2)))] : List AV)[1]? = some (.lit (.int .i64 r)) from rfl, bind_some', bind_some', show ([AV.agg u.cells, .lit (.int .i64 r), .lit (.bool (decide (0 ≤ (over l (l.length + 1) l.length t 300).2)))] : List AV)[2]? = some (.lit (.bool (decide (0 ≤ (over l (l.length + 1) l.length t 300).2)))) from rfl, bind_some', aggS, bind_some', Ty.cells_len, show Nat.beq 5 5 = true from rfl, condT, notB, bind_some', boolB, bind_some', Ty.refold]
  rw [show fullT l t = bif decide ((over l (l.length + 1) l.length t 300).2 < 0) then (zeroTy, false) else ((over l (l.length + 1) l.length t 300).1, true) from rfl]
  by_cases h0 : 0 ≤ (over l (l.length + 1) l.length t 300).2
  · obtain ⟨rfl, rfl⟩ := hval h0
    rw [decide_eq_true h0, Bool.not_true, condF, decide_eq_false (show ¬ (over l (l.length + 1) l.length t 300).2 < 0 by omega), condF]
  · rw [decide_eq_false h0, Bool.not_false, condT, decide_eq_true (show (over l (l.length + 1) l.length t 300).2 < 0 by omega), condT, zeroTy_cells]

theorem wrap_wf (x : Int) : (Lit.int .i64 (IntKind.i64.wrap x)).wf = true := by
  simp [Lit.wf, IntKind.wrap, IntKind.min, IntKind.max, IntKind.signed, IntKind.bits]
  omega
mutual
theorem sealed_ok (names : List ByteArray) (fr : Int) : ∀ t : Ty, t.Ok → (t.sealed names fr).Ok
  | ⟨k, n, s, ls, xs⟩, h => by
    rw [Ty.sealed]
    cases k == 6 && decide (idxR names 0 s ≥ 0) with
    | true =>
      rw [cond_true]
      exact .mk (show (Lit.int .i64 9).wf = true by decide) (wrap_wf _) (show ByteArray.empty.size ≤ maxLen by decide) (show 0 ≤ maxLen by decide) (by intro _ h; cases h) (show 0 ≤ maxLen by decide) (by intro _ h; cases h)
    | false =>
      rw [cond_false]
      cases h with
      | mk hk hn hs hl hls ha has => exact .mk hk hn hs hl hls (by rw [Ty.sealedL_map, List.length_map]; exact ha) (sealedL_ok names fr xs has)
theorem sealedL_ok (names : List ByteArray) (fr : Int) : ∀ l : List Ty, (∀ a ∈ l, a.Ok) → ∀ a ∈ Ty.sealedL names fr l, a.Ok
  | [], _ => by intro a ha; rw [Ty.sealedL] at ha; cases ha
  | t :: r, h => by
    intro a ha
    rw [Ty.sealedL] at ha
    rcases List.mem_cons.1 ha with e | e
    · rw [e]; exact sealed_ok names fr t (h t List.mem_cons_self)
    · exact sealedL_ok names fr r (fun x hx => h x (List.mem_cons_of_mem _ hx)) a e
end
theorem sealT_ok (names : List ByteArray) (fr : Int) (t : Ty) (h : t.Ok) : (sealT names fr t).Ok := by
  unfold sealT
  cases decide (fr < 0) || decide (fr > sub64 1073741824 (names.length : Int)) with
  | true => exact h
  | false => exact sealed_ok names fr t h

theorem same28L_refl : ∀ l : List Seal, same28L l l = true
  | [] => rfl
  | s :: r => by rw [same28L, Seal.same_refl, same28L_refl r]; rfl

theorem right_eq (l : List Seal) : ((l.zipIdx).all fun p => (p.1.rep.right && (!p.1.rep.has 6 && p.1.rep.under p.2)) && (p.1.bound.right && (!p.1.bound.has 6 && p.1.bound.under 0))) = rightSL 0 l := by
  have key : ∀ (l : List Seal) (i : Nat), ((l.zipIdx i).all fun p => (p.1.rep.right && (!p.1.rep.has 6 && p.1.rep.under p.2)) && (p.1.bound.right && (!p.1.bound.has 6 && p.1.bound.under 0))) = rightSL i l := by
    intro l
    induction l with
    | nil => intro i; rfl
    | cons s r ih =>
      intro i
      rw [List.zipIdx_cons, List.all_cons, ih (i + 1), rightSL, Seal.right]
      cases h1 : s.rep.right with
      | false => rfl
      | true =>
        rw [under_ahead _ _ h1]
        cases h2 : s.bound.right with
        | false => simp
        | true => rw [under_ahead _ _ h2]; simp only [Bool.and_assoc]
  exact key l 0

theorem boolEq (a b : Bool) : binAV E .eql 4 (.lit (.bool a)) (.lit (.bool b)) = some (.lit (.bool (a == b))) := (Eq.refl _).trans (by kernel_rfl)
theorem boolNeq (a b : Bool) : binAV E .neq 4 (.lit (.bool a)) (.lit (.bool b)) = some (.lit (.bool (!(a == b)))) := (Eq.refl _).trans (by kernel_rfl)

theorem sealTells_run (l : List Seal) (hll : l.length ≤ maxLen) (okl : ∀ s ∈ l, s.Ok) (reps ends : List Bind) (hrl : reps.length ≤ maxLen) (hel : ends.length ≤ maxLen) (okr : ∀ b ∈ reps, b.Ok) (oke : ∀ b ∈ ends, b.Ok) (df : ByteArray) (hd : df.size ≤ maxLen) (nd n : Int) (t : Ty) (ot : t.Ok) (hv : volE (l.map Seal.cells) ≤ 1048576) (htv : t.vol ≤ 1048576) (h : Heap) :
    evw E 5 [.sl 12 (l.map Seal.cells), .sl 6 (reps.map Bind.cells), .sl 6 (ends.map Bind.cells), .agg [.lit (.string df), .lit (.int .i64 nd)], .lit (.int .i64 n), .agg t.cells] h = some (.ret (.lit (.bool true)), h) := by
  refine evw_run primsC 60 rfl rfl rfl ?_
  rw [nf5, aggS, bind_some', show Nat.beq ([AV.lit (.string df), .lit (.int .i64 nd)] : List AV).length 2 = true from rfl, condT, aggS, bind_some', Ty.cells_len, show Nat.beq 5 5 = true from rfl, condT, few15_spec l hll okl, onOut_ret, bin_int, gtrI, bind_some', boolB, bind_some']
  refine cond_split (fun h1 => by rw [awake17, onOut_ret]) (fun h1 => ?_)
  rw [few16_spec reps hrl okr, onOut_ret, bin_int, gtrI, bind_some', boolB, bind_some']
  refine cond_split (fun h2 => by rw [awake17, onOut_ret]) (fun h2 => ?_)
  rw [few16_spec ends hel oke, onOut_ret, bin_int, gtrI, bind_some', boolB, bind_some']
  refine cond_split (fun h3 => by rw [awake17, onOut_ret]) (fun h3 => ?_)
  rw [show ([AV.lit (.string df), .lit (.int .i64 nd)] : List AV).getD 0 .dead = .lit (.string df) from rfl, show ([AV.lit (.string df), .lit (.int .i64 nd)] : List AV).getD 1 .dead = .lit (.int .i64 nd) from rfl, lenS, bind_some', bin_int, gtrI, bind_some', boolB, bind_some']
  refine cond_split (fun h4 => by rw [awake17, onOut_ret]) (fun h4 => ?_)
  rw [Ty.refold, much_spec _ _ ot, onOut_ret, bin_int, gtrI, bind_some', boolB, bind_some']
  refine cond_split (fun h5 => by rw [awake17, onOut_ret]) (fun h5 => ?_)
  have hl : l.length ≤ 12 := few15_len (of_decide_eq_false h1)
  have hr : reps.length ≤ 20 := few16_len (of_decide_eq_false h2)
  have he : ends.length ≤ 20 := few16_len (of_decide_eq_false h3)
  have loop : ∀ (m i : Nat), i ≤ reps.length → reps.length < m + i →
      Lp5_0 (evw E) 60 h m h (.sl 12 (l.map Seal.cells)) (.sl 6 (reps.map Bind.cells)) (.sl 6 (ends.map Bind.cells)) (.lit (.int .i64 n)) (.lit (.string df)) (.lit (.int .i64 nd)) (t.cells.getD 0 .dead) (t.cells.getD 1 .dead) (t.cells.getD 2 .dead) (t.cells.getD 3 .dead) (t.cells.getD 4 .dead) (((reps.take i).map Bind.ty).map Ty.cells) (((reps.take i).map Bind.name).map strC) (.lit (.int .i64 (i : Int))) = some (.ret (.lit (.bool true)), h) := by
    intro m
    induction m with
    | zero => intro i hi1 hi2; omega
    | succ m ih =>
      intro i hi1 hi2
      rw [Lp5_0_succ, lenA23, bind_some', bin_int, lssI, bind_some', boolB, bind_some', List.length_map]
      by_cases hi : i < reps.length
      · rw [ltT hi, condT, indexA_map _ _ _ _ hi, bind_some', Bind.len, show Nat.ble 1 6 = true from rfl, condT, Bind.p1, bind_some', aggS, bind_some', Ty.cells_len, show Nat.beq 5 5 = true from rfl, condT]
        rw [Ty.refold reps[i].ty]
        rw [show Nat.ble ((((reps.take i).map Bind.ty).map Ty.cells).length + ([reps[i].ty.cells] : List (List AV)).length) maxApp = true from by rw [Nat.ble_eq]; unfold maxApp; simp; omega, condT, bind_some', Bind.len, show Nat.ble 0 6 = true from rfl, condT, Bind.p0, bind_some', show AV.one (.lit (.string reps[i].name)) = true from rfl, condT]
        rw [show Nat.ble ((((reps.take i).map Bind.name).map strC).length + ([[AV.lit (.string reps[i].name)]] : List (List AV)).length) maxApp = true from by rw [Nat.ble_eq]; unfold maxApp; simp; omega, condT, bin_int, addI, bind_some', incI (by omega)]
        have hz : ((reps.take i).map Bind.ty).map Ty.cells ++ [reps[i].ty.cells] = ((reps.take (i + 1)).map Bind.ty).map Ty.cells := by
          rw [show reps.take (i + 1) = reps.take i ++ [reps[i]] from by rw [List.take_add_one, List.getElem?_eq_getElem hi]; rfl, List.map_append, List.map_append]; rfl
        have hz2 : ((reps.take i).map Bind.name).map strC ++ [[AV.lit (.string reps[i].name)]] = ((reps.take (i + 1)).map Bind.name).map strC := by
          rw [show reps.take (i + 1) = reps.take i ++ [reps[i]] from by rw [List.take_add_one, List.getElem?_eq_getElem hi]; rfl, List.map_append, List.map_append]; rfl
        rw [hz, hz2]
        exact ih (i + 1) hi (by omega)
      · have hi' : i = reps.length := by omega
        subst hi'
        have okrs : ∀ r ∈ reps.map Bind.ty, r.Ok := fun r hr' => by obtain ⟨b, hb, rfl⟩ := List.mem_map.1 hr'; exact (okr b hb).ty
        have hnl : (reps.map Bind.name).length ≤ maxLen := by rw [List.length_map]; exact hrl
        have okadd : ∀ s ∈ l ++ addL df nd (reps.map Bind.ty) ends, s.Ok := fun s hs => by
          rcases List.mem_append.1 hs with e | e
          · exact okl s e
          · exact addL_ok df nd hd _ ends okrs oke s e
        have hlen : (l ++ addL df nd (reps.map Bind.ty) ends).length ≤ maxLen := by
          have h1 : ∀ (rs : List Ty) (bs : List Bind), (addL df nd rs bs).length ≤ bs.length := by
            intro rs
            induction rs with
            | nil => intro bs; cases bs <;> exact Nat.zero_le _
            | cons r rs ih2 =>
              intro bs
              cases bs with
              | nil => exact Nat.le_refl _
              | cons b bs => rw [addL, List.length_cons, List.length_cons]; exact Nat.succ_le_succ (ih2 bs)
          have := h1 (reps.map Bind.ty) ends
          rw [List.length_append]
          exact Nat.le_trans (show _ ≤ 40 by omega) (by decide)
        have of := fullT_ok l okl t ot
        have osf : ∀ s ∈ [(findT l n).1], s.Ok := fun s hs => by
          rw [List.mem_singleton.1 hs]
          cases hf : (findT l n).2 with
          | true => exact findT_ok okl n hf
          | false =>
            have : (findT l n).1 = zeroSeal := by
              unfold findT at hf ⊢
              split
              · rename_i hn; rw [dif_pos hn] at hf; cases hf
              · rfl
            rw [this]; exact ⟨zeroTy_ok, zeroTy_ok, by decide⟩
        rw [ltF hi, condF, List.take_length, Ty.refold]
        rw [add_spec l (reps.map Bind.ty) ends df nd (by omega) (by omega), onOut_ret, tupS, bind_some']
        rw [show ([AV.sl 12 ((l ++ addL df nd (reps.map Bind.ty) ends).map Seal.cells), .lit (.int .i64 (l.length : Int))] : List AV)[0]? = some (.sl 12 ((l ++ addL df nd (reps.map Bind.ty) ends).map Seal.cells)) from rfl, bind_some', bind_some', show ([AV.sl 12 ((l ++ addL df nd (reps.map Bind.ty) ends).map Seal.cells), .lit (.int .i64 (l.length : Int))] : List AV)[1]? = some (.lit (.int .i64 (l.length : Int))) from rfl, bind_some']
        rw [radd_spec l (reps.map Bind.ty) ends df nd (by omega) (by rw [List.length_map]; omega), onOut_ret, tupS, bind_some']
        rw [show ([AV.sl 12 ((l ++ addL df nd (reps.map Bind.ty) ends).map Seal.cells), .lit (.int .i64 (l.length : Int))] : List AV)[0]? = some (.sl 12 ((l ++ addL df nd (reps.map Bind.ty) ends).map Seal.cells)) from rfl, bind_some', bind_some', show ([AV.sl 12 ((l ++ addL df nd (reps.map Bind.ty) ends).map Seal.cells), .lit (.int .i64 (l.length : Int))] : List AV)[1]? = some (.lit (.int .i64 (l.length : Int))) from rfl, bind_some']
        rw [find_spec, onOut_ret, tupS, bind_some', show ([AV.agg (findT l n).1.cells, .lit (.bool (findT l n).2)] : List AV)[0]? = some (.agg (findT l n).1.cells) from rfl, bind_some', bind_some', show ([AV.agg (findT l n).1.cells, .lit (.bool (findT l n).2)] : List AV)[1]? = some (.lit (.bool (findT l n).2)) from rfl, bind_some', aggS, bind_some', Seal.len, show Nat.beq 12 12 = true from rfl, condT]
        rw [rfind_spec, onOut_ret, tupS, bind_some', show ([AV.agg (findT l n).1.cells, .lit (.bool (findT l n).2)] : List AV)[0]? = some (.agg (findT l n).1.cells) from rfl, bind_some', bind_some', show ([AV.agg (findT l n).1.cells, .lit (.bool (findT l n).2)] : List AV)[1]? = some (.lit (.bool (findT l n).2)) from rfl, bind_some', aggS, bind_some', Seal.len, show Nat.beq 12 12 = true from rfl, condT]
        rw [full_spec l hll okl t ot, onOut_ret, tupS, bind_some', show ([AV.agg (fullT l t).1.cells, .lit (.bool (fullT l t).2)] : List AV)[0]? = some (.agg (fullT l t).1.cells) from rfl, bind_some', bind_some', show ([AV.agg (fullT l t).1.cells, .lit (.bool (fullT l t).2)] : List AV)[1]? = some (.lit (.bool (fullT l t).2)) from rfl, bind_some', aggS, bind_some', Ty.cells_len, show Nat.beq 5 5 = true from rfl, condT]
        rw [full_ref l hl okl hv t ot htv, onOut_ret, tupS, bind_some', show ([AV.agg (fullT l t).1.cells, .lit (.bool (fullT l t).2)] : List AV)[0]? = some (.agg (fullT l t).1.cells) from rfl, bind_some', bind_some', show ([AV.agg (fullT l t).1.cells, .lit (.bool (fullT l t).2)] : List AV)[1]? = some (.lit (.bool (fullT l t).2)) from rfl, bind_some', aggS, bind_some', Ty.cells_len, show Nat.beq 5 5 = true from rfl, condT]
        rw [same28_spec _ _ hlen okadd, onOut_ret, notB, bind_some', boolB, bind_some', decide_eq_true rfl, same28L_refl, show (!(true && true)) = false from rfl, condF, bin_int, neqI, bind_some', boolB, bind_some', show ((l.length : Int) != (l.length : Int)) = false from by simp, condF, Seal.re]
        have h22 := same28_spec [(findT l n).1] [(findT l n).1] (show 1 ≤ maxLen by decide) osf h
        rw [show ([(findT l n).1].map Seal.cells) = [(findT l n).1.cells] from rfl] at h22
        rw [h22, onOut_ret, notB, bind_some', boolB, bind_some', decide_eq_true rfl, same28L_refl, show (!(true && true)) = false from rfl, condF, boolNeq, bind_some', boolB, bind_some', show (!((findT l n).2 == (findT l n).2)) = false from by simp, condF, Ty.refold, same_spec _ _ _ of, Ty.same_refl, onOut_ret, notB, bind_some', boolB, bind_some', Bool.not_true, condF, boolNeq, bind_some', boolB, bind_some', show (!((fullT l t).2 == (fullT l t).2)) = false from by simp, condF]
        rw [sealRight_spec l hll okl, onOut_ret, right28_spec l hll okl, onOut_ret, right_eq, boolEq, bind_some', boolB, bind_some', show ((rightSL 0 l && decide ((l.length : Int) ≤ 1073741824)) == right28 l) = true from by unfold right28; simp, condT]
        rw [opaque_prog l okl, onOut_ret, opaque_ref l okl, onOut_ret, boolEq, bind_some', boolB, bind_some', show ((((findT l n).2 && (findT l n).1.bound.same tyTop)) == ((findT l n).2 && (findT l n).1.bound.same tyTop)) = true from by simp, condT]
        rw [seal_prog _ hnl n t h ot htv, onOut_ret, seal_ref _ hnl n t h ot htv, onOut_ret, same_spec _ _ _ (sealT_ok _ n t ot), Ty.same_refl, onOut_ret, boolB, bind_some', condT, awake17, onOut_ret]
  have := loop 60 0 (Nat.zero_le _) (by omega)
  rw [List.take_zero, show ((0 : Nat) : Int) = 0 from rfl] at this
  exact this

theorem vol_sl {n m : Nat} {es : List (List AV)} (h : volC [.sl n es] ≤ m) (hm : m ≤ 1048576) : volE es ≤ 1048576 := by
  simp only [volC, Sh.vol] at h; omega
theorem vol_ty {t : Ty} {m : Nat} (h : volC t.cells ≤ m) (hm : m ≤ 1048576) : t.vol ≤ 1048576 := Nat.le_trans h hm
theorem sealTells_row (l : List Seal) (hl : l.length ≤ maxLen) (ol : ∀ s ∈ l, s.Ok) (r : List Bind) (hr : r.length ≤ maxLen) (orr : ∀ b ∈ r, b.Ok) (e : List Bind) (he : e.length ≤ maxLen) (oe : ∀ b ∈ e, b.Ok) (df : ByteArray) (nd : Int) (hd : df.size ≤ maxLen) (h0 : (Lit.int .i64 nd).wf = true) (n : Int) (hn : (Lit.int .i64 n).wf = true) (t : Ty) (ot : t.Ok)
    (hv : volE (l.map Seal.cells) ≤ 1048576) (htv : t.vol ≤ 1048576) (h : Heap) :
    evw E 5 [.sl 12 (l.map Seal.cells), .sl 6 (r.map Bind.cells), .sl 6 (e.map Bind.cells), .agg [.lit (.string df), .lit (.int .i64 nd)], .lit (.int .i64 n), .agg t.cells] h = some (.ret (.lit (.bool true)), h) :=
  sealTells_run l hl ol r e hr he orr oe df hd nd n t ot hv htv h
end Go.Sh.T

namespace Go.Sh.T
open Go Go.Sh Go.Proofs
set_option linter.unusedSimpArgs false
set_option linter.unusedVariables false
theorem ty22 : E.ty 22 = some ti22 := by kernel_rfl
theorem ty25 : E.ty 25 = some ti25 := by kernel_rfl
theorem ty37 : E.ty 37 = some ti37 := by kernel_rfl

theorem label_of {vs : List AV} (h : TypedC E 25 vs) : ∃ (s : ByteArray) (n : Int), vs = [.lit (.string s), .lit (.int .i64 n)] ∧ s.size ≤ maxLen ∧ (Lit.int .i64 n).wf = true := by
  cases h with
  | bool h hd b => rw [ty25] at h; cases h; cases hd
  | int h hd hw => rw [ty25] at h; cases h; cases hd
  | str h hd hs => rw [ty25] at h; cases h; cases hd
  | sl h hd hj hl hes => rw [ty25] at h; cases h; cases hd
  | struct h hd hf =>
    rw [ty25] at h; cases h; cases hd
    cases hf with
    | cons h1 hf =>
    cases hf with
    | cons h2 hf =>
    cases hf
    obtain ⟨s, rfl, hs⟩ := str_of h1 ty9
    obtain ⟨n, rfl, hn⟩ := int_of h2 ty3
    exact ⟨s, n, rfl, hs, hn⟩

theorem seal_of {vs : List AV} (h : TypedC E 37 vs) : ∃ s : Seal, vs = s.cells ∧ s.Ok := by
  cases h with
  | bool h hd b => rw [ty37] at h; cases h; cases hd
  | int h hd hw => rw [ty37] at h; cases h; cases hd
  | str h hd hs => rw [ty37] at h; cases h; cases hd
  | sl h hd hj hl hes => rw [ty37] at h; cases h; cases hd
  | struct h hd hf =>
    rw [ty37] at h; cases h; cases hd
    cases hf with
    | cons h1 hf =>
    cases hf with
    | cons h2 hf =>
    cases hf with
    | cons h3 hf =>
    cases hf
    obtain ⟨x, rfl, hx⟩ := ty_of h1
    obtain ⟨y, rfl, hy⟩ := ty_of h2
    obtain ⟨s, n, rfl, hs, hn⟩ := label_of h3
    exact ⟨⟨x, y, s, n⟩, by simp [Seal.cells], ⟨hx, hy, hs⟩⟩

theorem seals_ofE : ∀ {es : List (List AV)}, TypedE E 37 es → ∃ l : List Seal, es = l.map Seal.cells ∧ ∀ s ∈ l, s.Ok
  | [], _ => ⟨[], rfl, fun _ h => by cases h⟩
  | _ :: _, .cons h hr => by
    obtain ⟨s, rfl, hs⟩ := seal_of h
    obtain ⟨l, rfl, hl⟩ := seals_ofE hr
    exact ⟨s :: l, rfl, fun x hx => by
      rcases List.mem_cons.1 hx with e | e
      · rw [e]; exact hs
      · exact hl x e⟩

theorem seals_of {vs : List AV} (h : TypedC E 22 vs) : ∃ l : List Seal, vs = [.sl 12 (l.map Seal.cells)] ∧ l.length ≤ maxLen ∧ ∀ s ∈ l, s.Ok := by
  cases h with
  | bool h hd b => rw [ty22] at h; cases h; cases hd
  | int h hd hw => rw [ty22] at h; cases h; cases hd
  | str h hd hs => rw [ty22] at h; cases h; cases hd
  | struct h hd hf => rw [ty22] at h; cases h; cases hd
  | sl h hd hj hl hes =>
    rw [ty22] at h; cases h; cases hd
    rw [ty37] at hj; cases hj
    obtain ⟨l, rfl, hs⟩ := seals_ofE hes
    exact ⟨l, rfl, by simpa using hl, hs⟩

theorem ty23 : E.ty 23 = some ti23 := by kernel_rfl
theorem ty35 : E.ty 35 = some ti35 := by kernel_rfl
theorem bind_of {vs : List AV} (h : TypedC E 35 vs) : ∃ s : Bind, vs = s.cells ∧ s.Ok := by
  cases h with
  | bool h hd b => rw [ty35] at h; cases h; cases hd
  | int h hd hw => rw [ty35] at h; cases h; cases hd
  | str h hd hs => rw [ty35] at h; cases h; cases hd
  | sl h hd hj hl hes => rw [ty35] at h; cases h; cases hd
  | struct h hd hf =>
    rw [ty35] at h; cases h; cases hd
    cases hf with
    | cons h1 hf =>
    cases hf with
    | cons h2 hf =>
    cases hf
    obtain ⟨x, rfl, hx⟩ := str_of h1 ty9
    obtain ⟨y, rfl, hy⟩ := ty_of h2
    exact ⟨⟨x, y⟩, by simp [Bind.cells, strC], ⟨hx, hy⟩⟩
theorem binds_ofE : ∀ {es : List (List AV)}, TypedE E 35 es → ∃ l : List Bind, es = l.map Bind.cells ∧ ∀ s ∈ l, s.Ok
  | [], _ => ⟨[], rfl, fun _ h => by cases h⟩
  | _ :: _, .cons h hr => by
    obtain ⟨s, rfl, hs⟩ := bind_of h
    obtain ⟨l, rfl, hl⟩ := binds_ofE hr
    exact ⟨s :: l, rfl, fun x hx => by
      rcases List.mem_cons.1 hx with e | e
      · rw [e]; exact hs
      · exact hl x e⟩
theorem binds_of {vs : List AV} (h : TypedC E 23 vs) : ∃ l : List Bind, vs = [.sl 6 (l.map Bind.cells)] ∧ l.length ≤ maxLen ∧ ∀ s ∈ l, s.Ok := by
  cases h with
  | bool h hd b => rw [ty23] at h; cases h; cases hd
  | int h hd hw => rw [ty23] at h; cases h; cases hd
  | str h hd hs => rw [ty23] at h; cases h; cases hd
  | struct h hd hf => rw [ty23] at h; cases h; cases hd
  | sl h hd hj hl hes =>
    rw [ty23] at h; cases h; cases hd
    rw [ty35] at hj; cases hj
    obtain ⟨l, rfl, hs⟩ := binds_ofE hes
    exact ⟨l, rfl, by simpa using hl, hs⟩
theorem int_of' {vs : List AV} (h : TypedC E 3 vs) : ∃ n, vs = [.lit (.int .i64 n)] ∧ (Lit.int .i64 n).wf = true := int_of h ty3

def flatTs : List Nat := [3, 4, 9, 22, 23, 25, 29, 31, 33, 35, 37, 55, 66]
theorem flatTs_ok : flatAll E flatTs = true := by kernel_rfl

mutual
theorem dsz_le {H : Type} : ∀ d : DataW H, dsz d ≤ Ytgjjdaillajgbaa.Rows.uptoBulk d
  | .lit l => by cases l <;> simp [dsz, Ytgjjdaillajgbaa.Rows.uptoBulk]
  | .nil => by simp [dsz, Ytgjjdaillajgbaa.Rows.uptoBulk]
  | .ptr d => by simp [dsz, Ytgjjdaillajgbaa.Rows.uptoBulk]
  | .slice e s => by have := dszL_le e; simp only [dsz, Ytgjjdaillajgbaa.Rows.uptoBulk]; omega
  | .agg p => by have := dszL_le p; simp only [dsz, Ytgjjdaillajgbaa.Rows.uptoBulk]; omega
  | .iface _ d => by simp [dsz, Ytgjjdaillajgbaa.Rows.uptoBulk]
  | .map _ => by simp [dsz, Ytgjjdaillajgbaa.Rows.uptoBulk]
  | .held _ => by simp [dsz, Ytgjjdaillajgbaa.Rows.uptoBulk]
theorem dszL_le {H : Type} : ∀ l : List (DataW H), dszL l ≤ Ytgjjdaillajgbaa.Rows.uptoBulkAll l
  | [] => by simp [dszL, Ytgjjdaillajgbaa.Rows.uptoBulkAll]
  | d :: r => by have := dsz_le d; have := dszL_le r; simp only [dszL, Ytgjjdaillajgbaa.Rows.uptoBulkAll]; omega
end
end Go.Sh.T
