/- CkC: part of the proof: a shadow of the machine that is proved sound, and what the functions of this seat compute. Conditions: none. -/
import Derived.Test.YtgjjdaillajgbaaCkB
import Derived.Test.YtgjjdaillajgbaaShB
import Derived.Test.YtgjjdaillajgbaaRows
namespace Go.Sh.T
open Go Go.Sh
set_option linter.unusedSimpArgs false
set_option linter.unusedVariables false
set_option maxRecDepth 100000

/- the program's names are the document's -/
theorem low_hi {c : Int} (h : 128 ≤ c) : lowB c = false := by
  unfold lowB; rw [show decide (c ≤ 122) = false from by simp; omega]; cases decide (c ≥ 97) <;> rfl
theorem up_hi {c : Int} (h : 128 ≤ c) : upB c = false := by
  unfold upB; rw [show decide (c ≤ 90) = false from by simp; omega]; cases decide (c ≥ 65) <;> rfl
theorem dig_hi {c : Int} (h : 128 ≤ c) : digB c = false := by
  unfold digB; rw [show decide (c ≤ 57) = false from by simp; omega]; cases decide (c ≥ 48) <;> rfl

theorem get_byte (s : ByteArray) (pos : Nat) (h : pos < s.size) (h' : pos < (bytes s).length) : s[pos]'h = (bytes s)[pos]'h' := rfl

theorem decode_big (s : ByteArray) (pos : Nat) (h : pos < s.size) (hb : 128 ≤ (s[pos]'h).toNat) : 128 ≤ (Utf8.decode s pos).1 := by
  have e : s.get! (pos + 0) = s[pos]'h := by
    show s.get! pos = _
    simp [ByteArray.get!, getElem!_pos, h]
    rfl
  simp only [Utf8.decode, e]
  rw [if_neg (by omega)]
  unfold Utf8.runeError
  repeat' split
  all_goals rename_i hc
  all_goals simp only [Bool.and_eq_true, decide_eq_true_eq, ge_iff_le] at *
  all_goals omega

theorem go_kind (s : ByteArray) : ∀ (m pos : Nat) (k : Int), 1 ≤ pos → s.size < m + pos → pos ≤ s.size → (k = 1 ∨ k = 2) → P178.goP s m pos k = kindL k ((bytes s).drop pos)
  | 0, pos, k, _, h1, h2, _ => by omega
  | m + 1, pos, k, h0, h1, h2, hk => by
    unfold P178.goP
    by_cases hp : pos < s.size
    · have hp' : pos < (bytes s).length := by rw [bytes_len]; exact hp
      rw [dif_pos hp, List.drop_eq_getElem_cons hp', kindL]
      have hz : (pos == 0) = false := by simp; omega
      by_cases hb : (s[pos]'hp).toNat < 128
      · rw [decode_ascii s pos hp hb, ← get_byte s pos hp hp']
        have ih := fun k hk => go_kind s m (pos + 1) k (by omega) (by omega) (by omega) hk
        simp only [hz]
        unfold P178.stepP badR
        rcases hk with e | e
        · subst e
          have := ih 1 (.inl rfl)
          cases lowB ((s[pos]'hp).toNat : Int) <;> cases upB ((s[pos]'hp).toNat : Int) <;> cases digB ((s[pos]'hp).toNat : Int) <;> first | rfl | exact this
        · subst e
          have := ih 2 (.inr rfl)
          cases lowB ((s[pos]'hp).toNat : Int) <;> cases upB ((s[pos]'hp).toNat : Int) <;> cases digB ((s[pos]'hp).toNat : Int) <;> first | rfl | exact this
      · have hd := decode_big s pos hp (by omega)
        have hq : (128 : Int) ≤ ((bytes s)[pos]'hp').toNat := by rw [← get_byte s pos hp hp']; omega
        unfold P178.stepP badR
        rw [low_hi (by omega), up_hi (by omega), dig_hi (by omega), low_hi hq, up_hi hq, dig_hi hq, hz]
        cases k != 0 <;> cases k == 2 <;> rfl
    · rw [dif_neg hp, List.drop_of_length_le (by rw [bytes_len]; omega), kindL]

theorem kindL_zero : ∀ l : List UInt8, kindL 0 l = 0
  | [] => rfl
  | c :: r => by rw [kindL, kindL_zero r]; cases badR 0 c.toNat <;> rfl

/-- What the document tells by letters alone. -/
def lettersR (s : ByteArray) : Int := match bytes s with
  | [] => 0
  | c :: r => bif decide (r.length ≥ 8) then 0 else kindL (kind0 c.toNat) r
theorem kindR_eq (s : ByteArray) : kindR s = bif keptR s != 0 then keptR s else lettersR s := rfl

theorem shape_letters (s : ByteArray) : P178.shapeP s = lettersR s := by
  unfold P178.shapeP lettersR
  have hl := bytes_len s
  cases hb : bytes s with
  | nil =>
    rw [hb] at hl
    have h0 : s.size = 0 := by simpa using hl.symm
    rw [show decide ((s.size : Int) > 8) = false from by simp; omega, cond_false]
    unfold P178.goP
    rw [dif_neg (by omega)]
  | cons c r =>
    rw [hb, List.length_cons] at hl
    show _ = cond (decide (r.length ≥ 8)) 0 (kindL (kind0 c.toNat) r)
    by_cases h8 : r.length ≥ 8
    · rw [show decide ((s.size : Int) > 8) = true from by simp; omega, show decide (r.length ≥ 8) = true from by simpa using h8]; rfl
    · rw [show decide ((s.size : Int) > 8) = false from by simp; omega, show decide (r.length ≥ 8) = false from by simpa using h8, cond_false]
      unfold P178.goP
      have hp : 0 < s.size := by omega
      rw [dif_pos hp]
      have hp' : 0 < (bytes s).length := by rw [hb]; simp
      have hg : s[0]'hp = c := by rw [get_byte s 0 hp hp']; simp [hb]
      have hdrop : (bytes s).drop 1 = r := by rw [hb]; rfl
      have ih := fun k hk => go_kind s 9 1 k (by omega) (by omega) (by omega) hk
      rw [hdrop] at ih
      by_cases hbb : (s[0]'hp).toNat < 128
      · rw [decode_ascii s 0 hp hbb, hg]
        unfold P178.stepP kind0
        have i1 := ih 1 (.inl rfl)
        have i2 := ih 2 (.inr rfl)
        have hlu : ¬ (lowB (c.toNat : Int) = true ∧ upB (c.toNat : Int) = true) := by
          intro ⟨h1, h2⟩
          unfold lowB at h1; unfold upB at h2
          simp at h1 h2; omega
        have hz := kindL_zero r
        cases hlo : lowB (c.toNat : Int) <;> cases hup : upB (c.toNat : Int)
        · exact hz.symm
        · exact i2
        · exact i1
        · exact absurd ⟨hlo, hup⟩ hlu
      · have hd := decode_big s 0 hp (by omega)
        have hq : (128 : Int) ≤ c.toNat := by rw [← hg]; omega
        unfold P178.stepP kind0
        rw [low_hi (by omega), up_hi (by omega), low_hi hq, up_hi hq]
        exact (kindL_zero r).symm

theorem shape_spec (s : ByteArray) (h : Heap) : evw E 178 [.lit (.string s)] h = some (.ret (.lit (.int .i64 (lettersR s))), h) := by
  rw [← shape_letters]
  exact evw_prim primsC (p := p178) (by kernel_rfl) rfl

def keptP (s : ByteArray) (x : Int) : Int := bif keys3.any (fun k => strEq s k) then 3 else bif keys4.any (fun k => strEq s k) then 4 else x
theorem strEq_comm (a b : ByteArray) : strEq a b = strEq b a := Bool.eq_iff_iff.2 ⟨fun h => by unfold strEq at *; rw [beq_iff_eq] at *; exact h.symm, fun h => by unfold strEq at *; rw [beq_iff_eq] at *; exact h.symm⟩
theorem keptP_eq (s : ByteArray) : keptP s (lettersR s) = kindR s := by
  have e : ∀ l : List ByteArray, (l.any fun k => strEq s k) = l.any fun k => strEq k s := fun l => by congr 1; funext k; exact strEq_comm s k
  rw [kindR_eq]; unfold keptP keptR
  rw [e, e]
  cases keys3.any (fun k => strEq k s) <;> cases keys4.any (fun k => strEq k s) <;> rfl

theorem eqS (s k : ByteArray) : binAV E .eql 9 (.lit (.string s)) (.lit (.string k)) = some (.lit (.bool (strEq s k))) := (Eq.refl _).trans rfl
theorem pkind_spec (s : ByteArray) (h : Heap) : evw E 167 [.lit (.string s)] h = some (.ret (.lit (.int .i64 (kindR s))), h) := by
  rw [← keptP_eq]
  refine evw_run primsC 0 rfl rfl rfl ?_
  rw [nf167, shape_spec, onOut_ret]
  unfold keptP keys3 keys4
  simp only [List.any_cons, List.any_nil, Bool.or_false]
  generalize lettersR s = x
  rw [eqS s ⟨#[108, 101, 116]⟩, bind_some', boolB, bind_some']
  cases strEq s ⟨#[108, 101, 116]⟩ with
  | true => rfl
  | false =>
  rw [condF]
  rw [eqS s ⟨#[105, 110]⟩, bind_some', boolB, bind_some']
  cases strEq s ⟨#[105, 110]⟩ with
  | true => rfl
  | false =>
  rw [condF]
  rw [eqS s ⟨#[105, 102]⟩, bind_some', boolB, bind_some']
  cases strEq s ⟨#[105, 102]⟩ with
  | true => rfl
  | false =>
  rw [condF]
  rw [eqS s ⟨#[116, 104, 101, 110]⟩, bind_some', boolB, bind_some']
  cases strEq s ⟨#[116, 104, 101, 110]⟩ with
  | true => rfl
  | false =>
  rw [condF]
  rw [eqS s ⟨#[101, 108, 115, 101]⟩, bind_some', boolB, bind_some']
  cases strEq s ⟨#[101, 108, 115, 101]⟩ with
  | true => rfl
  | false =>
  rw [condF]
  rw [eqS s ⟨#[102, 110]⟩, bind_some', boolB, bind_some']
  cases strEq s ⟨#[102, 110]⟩ with
  | true => rfl
  | false =>
  rw [condF]
  rw [eqS s ⟨#[99, 97, 108, 108]⟩, bind_some', boolB, bind_some']
  cases strEq s ⟨#[99, 97, 108, 108]⟩ with
  | true => rfl
  | false =>
  rw [condF]
  rw [eqS s ⟨#[100, 101, 102]⟩, bind_some', boolB, bind_some']
  cases strEq s ⟨#[100, 101, 102]⟩ with
  | true => rfl
  | false =>
  rw [condF]
  rw [eqS s ⟨#[116, 114, 117, 101]⟩, bind_some', boolB, bind_some']
  cases strEq s ⟨#[116, 114, 117, 101]⟩ with
  | true => rfl
  | false =>
  rw [condF]
  rw [eqS s ⟨#[102, 97, 108, 115, 101]⟩, bind_some', boolB, bind_some']
  cases strEq s ⟨#[102, 97, 108, 115, 101]⟩ with
  | true => rfl
  | false =>
  rw [condF]
  rw [eqS s ⟨#[73, 110, 116]⟩, bind_some', boolB, bind_some']
  cases strEq s ⟨#[73, 110, 116]⟩ with
  | true => rfl
  | false =>
  rw [condF]
  rw [eqS s ⟨#[66, 111, 111, 108]⟩, bind_some', boolB, bind_some']
  cases strEq s ⟨#[66, 111, 111, 108]⟩ with
  | true => rfl
  | false =>
  rw [condF]
  rw [eqS s ⟨#[83, 116, 114, 105, 110, 103]⟩, bind_some', boolB, bind_some']
  cases strEq s ⟨#[83, 116, 114, 105, 110, 103]⟩ with
  | true => rfl
  | false =>
  rw [condF]
  rw [eqS s ⟨#[84, 111, 112]⟩, bind_some', boolB, bind_some']
  cases strEq s ⟨#[84, 111, 112]⟩ with
  | true => rfl
  | false =>
  rw [condF]
  rfl

theorem pvar_spec (s : ByteArray) (h : Heap) : evw E 137 [.lit (.string s)] h = some (.ret (.lit (.bool (kindR s == 2))), h) := by
  refine evw_run primsC 0 rfl rfl rfl ?_
  rw [nf137, pkind_spec, onOut_ret, bin_int, eqlI, bind_some']
theorem pfine_spec (s : ByteArray) (h : Heap) : evw E 141 [.lit (.string s)] h = some (.ret (.lit (.bool (kindR s == 1))), h) := by
  refine evw_run primsC 0 rfl rfl rfl ?_
  rw [nf141, pkind_spec, onOut_ret, bin_int, eqlI, bind_some']

theorem prising_spec (l : List ByteArray) (hl : l.length ≤ maxLen) (h : Heap) : evw E 138 [.sl 1 (l.map strC)] h = some (.ret (.lit (.bool (risingR l none))), h) := by
  have hl : l.length ≤ 9223372036854775807 := hl
  have loop : ∀ (q i : Nat), i ≤ l.length → l.length < q + i → Lp138_0 (evw E) (l.length + 1) h q h (.sl 1 (l.map strC)) (.sl 1 (l.map strC)) (.lit (.int .i64 (l.length : Int))) (.lit (.int .i64 (i : Int))) = some (.ret (.lit (.bool (risingR (l.drop i) (if i = 0 then none else l[i - 1]?)))), h) := by
    intro q
    induction q with
    | zero => intro i h1 h2; omega
    | succ q ih =>
      intro i h1 h2
      rw [Lp138_0_succ, bin_int, lssI, bind_some', boolB, bind_some']
      by_cases hi : i < l.length
      · have hn := ih (i + 1) hi (by omega)
        rw [if_neg (by omega), Nat.add_sub_cancel, List.getElem?_eq_getElem hi] at hn
        rw [ltT hi, condT, indexA_map _ _ _ _ hi, bind_some', part_str, bind_some', pfine_spec, onOut_ret, notB, bind_some', boolB, bind_some', List.drop_eq_getElem_cons hi, risingR]
        cases e : kindR l[i] == 1 with
        | false => rfl
        | true =>
          rw [Bool.not_true, condF, bin_int, gtrI, bind_some', boolB, bind_some', Bool.true_and]
          by_cases h0 : i = 0
          · subst h0
            rw [show decide (((0 : Nat) : Int) > 0) = false from rfl, condF, bin_int, addI, bind_some', incI (by omega), if_pos rfl, gapR, Bool.true_and]
            exact hn
          · have hi1 : i - 1 < l.length := by omega
            rw [if_neg h0, List.getElem?_eq_getElem hi1, show decide ((i : Int) > 0) = true from by simp; omega, condT, bin_int, subI, bind_some', show sub64 (i : Int) 1 = ((i - 1 : Nat) : Int) from by unfold sub64; rw [IntWalk.i64_in _ (by omega)]; omega]
            rw [indexA_map _ _ _ _ hi1, bind_some', part_str, bind_some', bin_str, show strBin .geq l[i - 1] l[i] = some (.lit (.bool (!Op.bytesLess l[i - 1].toList l[i].toList))) from rfl, bind_some', boolB, bind_some']
            unfold gapR strLt
            simp only
            cases e2 : Op.bytesLess l[i - 1].toList l[i].toList with
            | false => rfl
            | true => rw [Bool.not_true, condF, Bool.true_and, bin_int, addI, bind_some', incI (by omega)]; exact hn
      · rw [ltF hi, condF, show l.drop i = [] from List.drop_eq_nil_of_le (by omega)]
        rfl
  refine evw_run primsC (l.length + 1) rfl rfl rfl ?_
  rw [nf138, lenA31, bind_some', List.length_map]
  have := loop (l.length + 1) 0 (Nat.zero_le _) (by omega)
  rw [if_pos rfl, List.drop_zero] at this
  exact this
end Go.Sh.T

namespace Go.Sh.T
open Go Go.Sh
set_option linter.unusedSimpArgs false
set_option linter.unusedVariables false
set_option maxRecDepth 100000

theorem andB (a b : Bool) (h : Heap) : cond a (some (Out.ret (.lit (.bool b)), h)) (some (.ret (.lit (.bool false)), h)) = some (.ret (.lit (.bool (a && b))), h) := by cases a <;> rfl
def bareR (k n : Int) (s : ByteArray) (m : Nat) : Bool := (k == 6 || emptyS s) && ((k == 9 || n == 0) && (k == 8 || (m : Int) == 0))
theorem bin_strE (x y : ByteArray) : binAV E .eql 9 (.lit (.string x)) (.lit (.string y)) = some (.lit (.bool (x.toList == y.toList))) := (Eq.refl _).trans rfl

theorem bare_spec (t : Ty) (h : Heap) : evw E 134 [.agg t.cells] h = some (.ret (.lit (.bool (bareR t.k t.n t.name t.labels.length))), h) := by
  refine evw_run primsC 0 rfl rfl rfl ?_
  rw [nf134, aggS, bind_some', Ty.cells_len, show Nat.beq 5 5 = true from rfl, condT, Ty.c0, Ty.c1, Ty.c2, Ty.c3]
  simp only [bin_int, eqlI, bind_some', boolB, bin_strE, lenA31, List.length_map]
  unfold bareR emptyS
  cases t.k == 6 <;> cases t.k == 9 <;> cases t.k == 8 <;> cases t.n == 0 <;> cases t.name.toList == ByteArray.empty.toList <;> rfl

theorem pright_tail (k n : Int) (s : ByteArray) (ls : List ByteArray) (xs : List Ty) (hl : ls.length ≤ maxLen) (h : Heap) (hb : bareR k n s ls.length = true) {x : R}
    (hx : x = evw E 85 [.agg (Ty.mk k n s ls xs).cells] h) (h135 : evw E 135 [.sl 5 (xs.map Ty.cells), .fn 136 [] []] h = some (.ret (.lit (.bool false)), h)) : x = some (.ret (.lit (.bool (nodeR k n s ls xs.length))), h) := by
  rw [hx]
  refine evw_run primsC 0 rfl rfl rfl ?_
  rw [nf85, aggS, bind_some', Ty.cells_len, show Nat.beq 5 5 = true from rfl, condT, Ty.refold, bare_spec, onOut_ret, notB, bind_some', boolB, bind_some', show bareR (Ty.mk k n s ls xs).k (Ty.mk k n s ls xs).n (Ty.mk k n s ls xs).name (Ty.mk k n s ls xs).labels.length = true from hb, Bool.not_true, condF, Ty.c0, Ty.c1, Ty.c2, Ty.c3, Ty.c4, show (Ty.mk k n s ls xs).args = xs from rfl, h135, onOut_ret, boolB, bind_some', condF]
  have hr := prising_spec ls hl h
  have hbn : nodeR k n s ls xs.length = (bif decide (k ≥ 1) && decide (k ≤ 5) then (xs.length : Int) == 0 else bif k == 6 then kindR s == 2 && (xs.length : Int) == 0 else
      bif k == 9 then decide (n ≥ 0) && (decide (n ≤ 1073741824) && (xs.length : Int) == 0) else bif k == 7 then (xs.length : Int) == 2 else k == 8 && (risingR ls none && (ls.length : Int) == (xs.length : Int))) := by
    unfold nodeR
    unfold bareR at hb
    have e1 : decide ((ls.length : Int) > 0) = !((ls.length : Int) == 0) := by
      by_cases h0 : ls.length = 0
      · rw [h0]; rfl
      · rw [decide_eq_true (show (ls.length : Int) > 0 by omega), beq_false_of_ne (show (ls.length : Int) ≠ 0 by omega)]; rfl
    rw [e1]
    simp only [bne]
    revert hb
    cases k == 6 <;> cases k == 9 <;> cases k == 8 <;> cases n == 0 <;> cases emptyS s <;> cases (ls.length : Int) == 0 <;> intro hb <;> first | (cases hb; done) | simp
  rw [hbn]
  simp only [Ty.k, Ty.n, Ty.name, Ty.labels]
  have h10 : k = 1 ∨ k = 2 ∨ k = 3 ∨ k = 4 ∨ k = 5 ∨ k = 6 ∨ k = 7 ∨ k = 8 ∨ k = 9 ∨ (k ≠ 1 ∧ k ≠ 2 ∧ k ≠ 3 ∧ k ≠ 4 ∧ k ≠ 5 ∧ k ≠ 6 ∧ k ≠ 7 ∧ k ≠ 8 ∧ k ≠ 9) := by omega
  rcases h10 with e | e | e | e | e | e | e | e | e | e
  all_goals try subst e
  all_goals simp only [bin_int, eqlI, geqI, leqI, bind_some', boolB, lenA29, lenA31, List.length_map, pvar_spec, hr, onOut_ret, Int.reduceBEq, condT, condF, andB, Int.reduceLE, Int.reduceGE, decide_true, decide_false, Bool.true_and, Bool.false_and, Bool.and_true, Bool.and_false]
  · rw [Bool.and_comm]
  · have e1 : ((xs.length : Int) == (ls.length : Int)) = ((ls.length : Int) == (xs.length : Int)) := by
      by_cases h0 : (xs.length : Int) = (ls.length : Int)
      · rw [h0]
      · rw [beq_false_of_ne h0, beq_false_of_ne (Ne.symm h0)]
    rw [e1, Bool.and_comm]
  · cases (xs.length : Int) == 0 <;> cases decide (n ≥ 0) <;> cases decide (n ≤ 1073741824) <;> rfl
  · obtain ⟨e1, e2, e3, e4, e5, e6, e7, e8, e9⟩ := e
    have e0 : (decide (k ≥ 1) && decide (k ≤ 5)) = false := by
      by_cases h0 : k ≥ 1
      · rw [decide_eq_true h0, decide_eq_false (show ¬ k ≤ 5 by omega)]; rfl
      · rw [decide_eq_false h0]; rfl
    rw [e0, beq_false_of_ne e1, beq_false_of_ne e2, beq_false_of_ne e3, beq_false_of_ne e4, beq_false_of_ne e5, beq_false_of_ne e6, beq_false_of_ne e7, beq_false_of_ne e8, beq_false_of_ne e9]
    rfl

theorem rightL_any : ∀ l : List Ty, l.any (fun a => !a.right) = !Ty.rightL l
  | [] => by rw [Ty.rightL]; rfl
  | t :: r => by rw [List.any_cons, Ty.rightL, rightL_any r, Bool.not_and]

/-- The program's Right is the document's. -/
theorem pright_spec : ∀ (t : Ty) (h : Heap), t.Ok → evw E 85 [.agg t.cells] h = some (.ret (.lit (.bool t.right)), h)
  | t, h, ok => by
    have hrec : ∀ a ∈ t.args, ∀ H : Heap, evw E 85 [.agg a.cells] H = some (.ret (.lit (.bool a.right)), H) := by
      intro a ha H
      obtain ⟨i, hi, rfl⟩ := List.mem_iff_getElem.1 ha
      exact pright_spec t.args[i] H (ok.arg ha)
    have h135 : evw E 135 [.sl 5 (t.args.map Ty.cells), .fn 136 [] []] h = some (.ret (.lit (.bool (!Ty.rightL t.args))), h) := by
      rw [← rightL_any]
      refine any_spec (fun a => !a.right) (.fn 136 [] []) h t.args ok.len fun a ha => ?_
      rw [applyS]
      show evw E 136 [.agg a.cells] h = _
      refine evw_run primsC 0 rfl rfl rfl ?_
      rw [nf136, aggS, bind_some', Ty.cells_len, show Nat.beq 5 5 = true from rfl, condT, Ty.refold, hrec a ha, onOut_ret, notB, bind_some']
    cases hb : bareR t.k t.n t.name t.labels.length with
    | false =>
      refine evw_run primsC 0 rfl rfl rfl ?_
      rw [nf85, aggS, bind_some', Ty.cells_len, show Nat.beq 5 5 = true from rfl, condT, Ty.refold, bare_spec, onOut_ret, notB, bind_some', boolB, bind_some', hb, Bool.not_false, condT, Ty.right_eq]
      have : nodeR t.k t.n t.name t.labels t.args.length = false := by
        unfold nodeR
        unfold bareR at hb
        have e1 : decide ((t.labels.length : Int) > 0) = !((t.labels.length : Int) == 0) := by
          by_cases h0 : t.labels.length = 0
          · rw [h0]; rfl
          · rw [decide_eq_true (show (t.labels.length : Int) > 0 by omega), beq_false_of_ne (show (t.labels.length : Int) ≠ 0 by omega)]; rfl
        rw [e1]
        simp only [bne]
        revert hb
        cases t.k == 6 <;> cases t.k == 9 <;> cases t.k == 8 <;> cases t.n == 0 <;> cases emptyS t.name <;> cases (t.labels.length : Int) == 0 <;> intro hb <;> first | (cases hb; done) | simp
      rw [this, Bool.and_false]
    | true =>
      cases hr : Ty.rightL t.args with
      | false =>
        refine evw_run primsC 0 rfl rfl rfl ?_
        rw [nf85, aggS, bind_some', Ty.cells_len, show Nat.beq 5 5 = true from rfl, condT, Ty.refold, bare_spec, onOut_ret, notB, bind_some', boolB, bind_some', hb, Bool.not_true, condF, Ty.c4, h135, onOut_ret, boolB, bind_some', hr, Bool.not_false, condT, Ty.right_eq, hr, Bool.false_and]
      | true =>
        rw [hr, Bool.not_true] at h135
        have := pright_tail t.k t.n t.name t.labels t.args ok.lab h hb rfl h135
        rw [Ty.right_eq, hr, Bool.true_and]
        rw [show (⟨t.k, t.n, t.name, t.labels, t.args⟩ : Ty) = t from by cases t; rfl] at this
        exact this
  termination_by t => SizeOf.sizeOf t
  decreasing_by exact Ty.size_arg hi
end Go.Sh.T

namespace Go.Sh.T
open Go Go.Sh
set_option linter.unusedSimpArgs false
set_option linter.unusedVariables false
set_option maxRecDepth 100000

structure Bind where
  name : ByteArray
  ty : Ty
def Bind.cells (b : Bind) : List AV := .lit (.string b.name) :: b.ty.cells
structure Bind.Ok (b : Bind) : Prop where
  name : b.name.size ≤ maxLen
  ty : b.ty.Ok
@[simp] theorem Bind.len (b : Bind) : b.cells.length = 6 := by simp [Bind.cells]
theorem Bind.p1 (b : Bind) : partA true 5 0 (b.cells.drop 1) = some (.agg b.ty.cells) := by
  rw [Bind.cells, List.drop_succ_cons, List.drop_zero]; exact partA_full (Ty.cells_len _)
theorem Bind.p0 (b : Bind) : partA false 1 0 (b.cells.drop 0) = some (.lit (.string b.name)) := (Eq.refl _).trans rfl
theorem Bind.g (b : Bind) (i : Nat) : b.cells.getD (i + 1) .dead = b.ty.cells.getD i .dead := (Eq.refl _).trans rfl
def few16L (n : Int) : List Bind → Int
  | [] => n
  | b :: r => few16L (max64 n [b.ty.much, quo8 b.name]) r
def few16 (l : List Bind) : Int := bif decide ((l.length : Int) > 20) then 5000 else few16L 0 (l.take 20)

/- what is added -/
def addL (df : ByteArray) (nd : Int) : List Ty → List Bind → List Seal
  | r :: rs, b :: bs => ⟨r, b.ty, df, nd⟩ :: addL df nd rs bs
  | _, _ => []

/- the same seals -/
def Seal.same (s u : Seal) : Bool := ((s.df == u.df) && ((s.nd == u.nd) && true)) && (s.rep.same u.rep && s.bound.same u.bound)
def same28L : List Seal → List Seal → Bool
  | s :: r, u :: v => s.same u && same28L r v
  | _, _ => true
end Go.Sh.T

namespace Go.Sh.T
open Go Go.Sh
set_option linter.unusedSimpArgs false
set_option linter.unusedVariables false
set_option maxRecDepth 100000

/- under, and ahead -/
mutual
theorem under_ahead (b : Int) : ∀ t : Ty, t.right = true → t.under b = t.ahead b
  | ⟨k, n, s, ls, xs⟩, h => by
    rw [Ty.right, Bool.and_eq_true] at h
    rw [Ty.under, Ty.ahead]
    cases hk : k == 9 with
    | true =>
      have hk := eq_of_beq hk
      subst hk
      have hx : xs = [] := by
        have := h.2
        unfold nodeR at this
        simp only [show decide ((9 : Int) ≥ 1) = true from rfl, show decide ((9 : Int) ≤ 5) = false from rfl, show ((9 : Int) == 6) = false from rfl, show ((9 : Int) == 9) = true from rfl, Bool.and_false, cond_false, cond_true, Bool.and_eq_true, beq_iff_eq] at this
        have := this.2.2.2
        cases xs with
        | nil => rfl
        | cons a r => simp at this; omega
      subst hx
      rw [Ty.aheadL, cond_true, Bool.true_and, Bool.and_true, Bool.eq_iff_iff]
      simp
    | false =>
      rw [cond_false, Bool.false_and, Bool.not_false, Bool.true_and, overA_ahead b xs h.1]
      simp
theorem overA_ahead (b : Int) : ∀ l : List Ty, Ty.rightL l = true → Ty.overA b l = !Ty.aheadL b l
  | [], _ => by rw [Ty.overA, Ty.aheadL]; rfl
  | t :: r, h => by
    rw [Ty.rightL, Bool.and_eq_true] at h
    rw [Ty.overA, Ty.aheadL, under_ahead b t h.1, overA_ahead b r h.2, Bool.not_and]
end
mutual
theorem ahead_mono {n m : Int} (hnm : n ≤ m) : ∀ t : Ty, t.ahead n = true → t.ahead m = true
  | ⟨k, x, s, ls, xs⟩, h => by
    rw [Ty.ahead, Bool.and_eq_true] at h ⊢
    refine ⟨?_, aheadL_mono hnm xs h.2⟩
    have := h.1
    cases hk : k == 9 with
    | false => rfl
    | true => rw [hk] at this; simp at this ⊢; omega
theorem aheadL_mono {n m : Int} (hnm : n ≤ m) : ∀ l : List Ty, Ty.aheadL n l = true → Ty.aheadL m l = true
  | [], h => by rw [Ty.aheadL]
  | t :: r, h => by
    rw [Ty.aheadL, Bool.and_eq_true] at h ⊢
    exact ⟨ahead_mono hnm t h.1, aheadL_mono hnm r h.2⟩
end

/-- A seal as SealStay puts it behind the list: its label is not looked at. -/
def bare28 (r : Ty) (b : Bind) : Seal := ⟨r, b.ty, ByteArray.empty, 0⟩

theorem ba_refl (s : ByteArray) : (s == s) = true := by
  show (s.data == s.data) = true
  exact beq_self_eq_true _
theorem Seal.same_refl (s : Seal) : s.same s = true := by
  unfold Seal.same
  rw [Ty.same_refl, Ty.same_refl, ba_refl, beq_self_eq_true]; rfl

end Go.Sh.T

namespace Go.Sh.T
open Go Go.Sh
set_option linter.unusedSimpArgs false
set_option linter.unusedVariables false
set_option maxRecDepth 100000

end Go.Sh.T

namespace Go.Sh.T
open Go Go.Sh
set_option linter.unusedSimpArgs false
set_option linter.unusedVariables false
set_option maxRecDepth 100000

theorem rfind_spec (l : List Seal) (n : Int) (h : Heap) : evw E 30 [.sl 12 (l.map Seal.cells), .lit (.int .i64 n)] h = some (.ret (.tup [.agg (findT l n).1.cells, .lit (.bool (findT l n).2)]), h) := by
  refine evw_run primsC 0 rfl rfl rfl ?_
  rw [nf30, bin_int, lssI, bind_some', boolB, bind_some']
  by_cases h0 : n < 0
  · rw [show decide (n < 0) = true from by simpa using h0, condT]
    have : findT l n = (zeroSeal, false) := by unfold findT; rw [dif_neg (by omega)]
    rw [this, zeroSeal_cells]
  · rw [show decide (n < 0) = false from by simpa using h0, condF, lenA22, bind_some', bin_int, geqI, bind_some', boolB, bind_some', List.length_map]
    by_cases h1 : n ≥ l.length
    · rw [show decide (n ≥ (l.length : Int)) = true from by simpa using h1, condT]
      have : findT l n = (zeroSeal, false) := by unfold findT; rw [dif_neg (by omega)]
      rw [this, zeroSeal_cells]
    · rw [show decide (n ≥ (l.length : Int)) = false from by simpa using h1, condF]
      obtain ⟨i, rfl⟩ : ∃ i : Nat, n = (i : Int) := ⟨n.toNat, by omega⟩
      have hi : i < l.length := by omega
      rw [indexA_map _ _ _ _ hi, bind_some', partA_full (Seal.len _), bind_some', aggS, bind_some', Seal.len, show Nat.beq 12 12 = true from rfl, condT, findT_in hi, Seal.re]

/- opaque seals -/
theorem same_top (t : Ty) : t.same tyTop = (t.k == 4 && t.right) := by
  rw [Ty.same_eq, Ty.right_eq]
  show (!(t.k != 4) && !(t.n != 0) && strEq t.name ByteArray.empty && (decide (t.labels.length = 0) && sameS t.labels []) && decide (t.args.length = 0) && Ty.sameL t.args []) = _
  rw [Ty.sameL_nil]
  have es : sameS t.labels [] = true := by cases t.labels <;> rfl
  rw [es]
  by_cases hk : t.k = 4
  · rw [hk]
    unfold nodeR emptyS strEq
    have e1 : decide ((t.labels.length : Int) > 0) = !decide (t.labels.length = 0) := by
      by_cases h0 : t.labels.length = 0
      · rw [h0]; rfl
      · rw [decide_eq_true (show (t.labels.length : Int) > 0 by omega), decide_eq_false h0]; rfl
    have e2 : ((t.args.length : Int) == 0) = decide (t.args.length = 0) := by
      by_cases h0 : t.args.length = 0
      · rw [h0]; rfl
      · rw [beq_false_of_ne (show (t.args.length : Int) ≠ 0 by omega), decide_eq_false h0]
    rw [e1, e2]
    by_cases ha : t.args.length = 0
    · have : t.args = [] := List.length_eq_zero_iff.1 ha
      rw [this, Ty.rightL]
      simp only [show ((4 : Int) != 4) = false from rfl, show ((4 : Int) != 6) = true from rfl, show ((4 : Int) != 9) = true from rfl, show ((4 : Int) != 8) = true from rfl, show decide ((4 : Int) ≥ 1) = true from rfl, show decide ((4 : Int) ≤ 5) = true from rfl, bne]
      cases t.name.toList == ByteArray.empty.toList <;> cases t.n == 0 <;> cases decide (t.labels.length = 0) <;> rfl
    · rw [decide_eq_false ha]
      simp only [show decide ((4 : Int) ≥ 1) = true from rfl, show decide ((4 : Int) ≤ 5) = true from rfl, Bool.and_false, Bool.false_and, Bool.true_and, cond_true, Bool.and_self]
  · rw [beq_false_of_ne hk, show (t.k != 4) = true from by simpa using hk]; rfl

theorem opaque_prog (l : List Seal) (ok : ∀ s ∈ l, s.Ok) (n : Int) (h : Heap) : evw E 32 [.sl 12 (l.map Seal.cells), .lit (.int .i64 n)] h = some (.ret (.lit (.bool ((findT l n).2 && (findT l n).1.bound.same tyTop))), h) := by
  refine evw_run primsC 0 rfl rfl rfl ?_
  rw [nf32, find_spec, onOut_ret, tupS, bind_some']
  rw [show ([AV.agg (findT l n).1.cells, .lit (.bool (findT l n).2)] : List AV)[0]? = some (.agg (findT l n).1.cells) from rfl, bind_some', bind_some', show ([AV.agg (findT l n).1.cells, .lit (.bool (findT l n).2)] : List AV)[1]? = some (.lit (.bool (findT l n).2)) from rfl, bind_some', aggS, bind_some', Seal.len, show Nat.beq 12 12 = true from rfl, condT, boolB, bind_some', Seal.reBound, show (findT l n).1.cells.getD 5 .dead = (findT l n).1.bound.cells.getD 0 .dead from get_bound _ 0 (by decide), Ty.c0, same_top]
  cases hf : (findT l n).2 with
  | false => rfl
  | true =>
    rw [condT, bin_int, eqlI, bind_some', boolB, bind_some', pright_spec _ _ (findT_ok ok n hf).bound, onOut_ret]
    cases (findT l n).1.bound.k == 4 <;> rfl
/- seals in place of names -/
def idxR : List ByteArray → Int → ByteArray → Int
  | [], _, _ => -1
  | x :: r, i, s => bif strEq x s then i else idxR r (i + 1) s
theorem place_ref (l : List ByteArray) (hl : l.length ≤ maxLen) (s : ByteArray) (h : Heap) : evw E 157 [.sl 1 (l.map strC), .lit (.string s)] h = some (.ret (.lit (.int .i64 (idxR l 0 s))), h) := by
  have hl : l.length ≤ 9223372036854775807 := hl
  have loop : ∀ (q i : Nat), i ≤ l.length → l.length < q + i → Lp157_0 (evw E) (l.length + 1) h q h (.sl 1 (l.map strC)) (.lit (.string s)) (.lit (.int .i64 (i : Int))) = some (.ret (.lit (.int .i64 (idxR (l.drop i) i s))), h) := by
    intro q
    induction q with
    | zero => intro i h1 h2; omega
    | succ q ih =>
      intro i h1 h2
      rw [Lp157_0_succ, lenA31, bind_some', bin_int, lssI, bind_some', boolB, bind_some', List.length_map]
      by_cases hi : i < l.length
      · rw [ltT hi, condT, indexA_map _ _ _ _ hi, bind_some', part_str, bind_some', eqS, bind_some', boolB, bind_some', List.drop_eq_getElem_cons hi, idxR]
        cases strEq l[i] s with
        | true => rfl
        | false => rw [condF, condF, bin_int, addI, bind_some', incI (by omega)]; exact ih (i + 1) hi (by omega)
      · rw [ltF hi, condF, show l.drop i = [] from List.drop_eq_nil_of_le (by omega), idxR]
  refine evw_run primsC (l.length + 1) rfl rfl rfl ?_
  rw [nf157]
  have := loop (l.length + 1) 0 (Nat.zero_le _) (by omega)
  rw [List.drop_zero, show ((0 : Nat) : Int) = 0 from rfl] at this
  exact this
theorem index_prog (l : List ByteArray) (hl : l.length ≤ maxLen) (s : ByteArray) (h : Heap) : evw E 139 [.sl 1 (l.map strC), .lit (.string s)] h = some (.ret (.lit (.int .i64 (idxR l 0 s))), h) := by
  have hl : l.length ≤ 9223372036854775807 := hl
  have loop : ∀ (q i : Nat), i ≤ l.length → l.length < q + i → Lp139_0 (evw E) (l.length + 1) h q h (.sl 1 (l.map strC)) (.lit (.string s)) (.lit (.int .i64 (l.length : Int))) (.lit (.int .i64 (i : Int))) = some (.ret (.lit (.int .i64 (idxR (l.drop i) i s))), h) := by
    intro q
    induction q with
    | zero => intro i h1 h2; omega
    | succ q ih =>
      intro i h1 h2
      rw [Lp139_0_succ, bin_int, lssI, bind_some', boolB, bind_some']
      by_cases hi : i < l.length
      · rw [ltT hi, condT, indexA_map _ _ _ _ hi, bind_some', part_str, bind_some', eqS, bind_some', boolB, bind_some', List.drop_eq_getElem_cons hi, idxR, strEq_comm s l[i]]
        cases strEq l[i] s with
        | true => rfl
        | false => rw [condF, condF, bin_int, addI, bind_some', incI (by omega)]; exact ih (i + 1) hi (by omega)
      · rw [ltF hi, condF, show l.drop i = [] from List.drop_eq_nil_of_le (by omega), idxR]
  refine evw_run primsC (l.length + 1) rfl rfl rfl ?_
  rw [nf139, lenA31, bind_some', List.length_map]
  have := loop (l.length + 1) 0 (Nat.zero_le _) (by omega)
  rw [List.drop_zero, show ((0 : Nat) : Int) = 0 from rfl] at this
  exact this

mutual
def Ty.sealed (names : List ByteArray) (from' : Int) : Ty → Ty
  | ⟨k, n, s, ls, xs⟩ => bif k == 6 && decide (idxR names 0 s ≥ 0) then tySl (add64 from' (idxR names 0 s)) else ⟨k, n, s, ls, Ty.sealedL names from' xs⟩
def Ty.sealedL (names : List ByteArray) (from' : Int) : List Ty → List Ty
  | [] => []
  | t :: r => t.sealed names from' :: Ty.sealedL names from' r
end
theorem Ty.sealedL_map (names : List ByteArray) (from' : Int) : ∀ l : List Ty, Ty.sealedL names from' l = l.map (Ty.sealed names from')
  | [] => by rw [Ty.sealedL]; rfl
  | t :: r => by rw [Ty.sealedL, Ty.sealedL_map names from' r]; rfl
def sealT (names : List ByteArray) (fr : Int) (t : Ty) : Ty := bif decide (fr < 0) || decide (fr > sub64 1073741824 (names.length : Int)) then t else t.sealed names fr

end Go.Sh.T

namespace Go.Sh.T
open Go Go.Sh
set_option linter.unusedSimpArgs false
set_option linter.unusedVariables false
set_option maxRecDepth 100000

/- what is full, as the document has it -/
def tup3 (u : Ty) (r : Int) (b : Bool) : AV := .tup [.agg u.cells, .lit (.int .i64 r), .lit (.bool b)]

end Go.Sh.T

namespace Go.Sh.T
open Go Go.Sh
set_option linter.unusedSimpArgs false
set_option linter.unusedVariables false
set_option maxRecDepth 100000

mutual
theorem cnt_vol : ∀ t : Ty, t.cnt ≤ t.vol
  | ⟨k, n, s, ls, xs⟩ => by
    rw [Ty.vol_eq, Ty.cnt]
    have := cntL_vol xs
    simp only
    omega
theorem cntL_vol : ∀ l : List Ty, Ty.cntL l ≤ Ty.volL l
  | [] => by rw [Ty.cntL, Ty.volL]; exact Nat.le_refl _
  | t :: r => by
    have h1 := cnt_vol t; have h2 := cntL_vol r
    rw [Ty.cntL, Ty.volL]; omega
end

def Seal.vol (s : Seal) : Nat := volC s.cells
theorem wrap_wf (x : Int) : (Lit.int .i64 (IntKind.i64.wrap x)).wf = true := by
  simp [Lit.wf, IntKind.wrap, IntKind.min, IntKind.max, IntKind.signed, IntKind.bits]
  omega
mutual
theorem sealed_ok (names : List ByteArray) (fr : Int) : ∀ t : Ty, t.Ok → (t.sealed names fr).Ok
  | ⟨k, n, s, ls, xs⟩, h => by
    rw [Ty.sealed]
    cases k == 6 && decide (idxR names 0 s ≥ 0) with
    | true =>
      rw [cond_true]
      exact .mk (show (Lit.int .i64 9).wf = true by decide) (wrap_wf _) (show ByteArray.empty.size ≤ maxLen by decide) (show 0 ≤ maxLen by decide) (by intro _ h; cases h) (show 0 ≤ maxLen by decide) (by intro _ h; cases h)
    | false =>
      rw [cond_false]
      cases h with
      | mk hk hn hs hl hls ha has => exact .mk hk hn hs hl hls (by rw [Ty.sealedL_map, List.length_map]; exact ha) (sealedL_ok names fr xs has)
theorem sealedL_ok (names : List ByteArray) (fr : Int) : ∀ l : List Ty, (∀ a ∈ l, a.Ok) → ∀ a ∈ Ty.sealedL names fr l, a.Ok
  | [], _ => by intro a ha; rw [Ty.sealedL] at ha; cases ha
  | t :: r, h => by
    intro a ha
    rw [Ty.sealedL] at ha
    rcases List.mem_cons.1 ha with e | e
    · rw [e]; exact sealed_ok names fr t (h t List.mem_cons_self)
    · exact sealedL_ok names fr r (fun x hx => h x (List.mem_cons_of_mem _ hx)) a e
end
theorem right_eq (l : List Seal) : ((l.zipIdx).all fun p => (p.1.rep.right && (!p.1.rep.has 6 && p.1.rep.under p.2)) && (p.1.bound.right && (!p.1.bound.has 6 && p.1.bound.under 0))) = rightSL 0 l := by
  have key : ∀ (l : List Seal) (i : Nat), ((l.zipIdx i).all fun p => (p.1.rep.right && (!p.1.rep.has 6 && p.1.rep.under p.2)) && (p.1.bound.right && (!p.1.bound.has 6 && p.1.bound.under 0))) = rightSL i l := by
    intro l
    induction l with
    | nil => intro i; rfl
    | cons s r ih =>
      intro i
      rw [List.zipIdx_cons, List.all_cons, ih (i + 1), rightSL, Seal.right]
      cases h1 : s.rep.right with
      | false => rfl
      | true =>
        rw [under_ahead _ _ h1]
        cases h2 : s.bound.right with
        | false => simp
        | true => rw [under_ahead _ _ h2]; simp only [Bool.and_assoc]
  exact key l 0

end Go.Sh.T

namespace Go.Sh.T
open Go Go.Sh Go.Proofs
set_option linter.unusedSimpArgs false
set_option linter.unusedVariables false
theorem ty22 : E.ty 22 = some ti22 := by kernel_rfl
theorem ty25 : E.ty 25 = some ti25 := by kernel_rfl
theorem ty37 : E.ty 37 = some ti37 := by kernel_rfl

theorem label_of {vs : List AV} (h : TypedC E 25 vs) : ∃ (s : ByteArray) (n : Int), vs = [.lit (.string s), .lit (.int .i64 n)] ∧ s.size ≤ maxLen ∧ (Lit.int .i64 n).wf = true := by
  cases h with
  | bool h hd b => rw [ty25] at h; cases h; cases hd
  | int h hd hw => rw [ty25] at h; cases h; cases hd
  | str h hd hs => rw [ty25] at h; cases h; cases hd
  | sl h hd hj hl hes => rw [ty25] at h; cases h; cases hd
  | struct h hd hf =>
    rw [ty25] at h; cases h; cases hd
    cases hf with
    | cons h1 hf =>
    cases hf with
    | cons h2 hf =>
    cases hf
    obtain ⟨s, rfl, hs⟩ := str_of h1 ty9
    obtain ⟨n, rfl, hn⟩ := int_of h2 ty3
    exact ⟨s, n, rfl, hs, hn⟩

theorem seal_of {vs : List AV} (h : TypedC E 37 vs) : ∃ s : Seal, vs = s.cells ∧ s.Ok := by
  cases h with
  | bool h hd b => rw [ty37] at h; cases h; cases hd
  | int h hd hw => rw [ty37] at h; cases h; cases hd
  | str h hd hs => rw [ty37] at h; cases h; cases hd
  | sl h hd hj hl hes => rw [ty37] at h; cases h; cases hd
  | struct h hd hf =>
    rw [ty37] at h; cases h; cases hd
    cases hf with
    | cons h1 hf =>
    cases hf with
    | cons h2 hf =>
    cases hf with
    | cons h3 hf =>
    cases hf
    obtain ⟨x, rfl, hx⟩ := ty_of h1
    obtain ⟨y, rfl, hy⟩ := ty_of h2
    obtain ⟨s, n, rfl, hs, hn⟩ := label_of h3
    exact ⟨⟨x, y, s, n⟩, by simp [Seal.cells], ⟨hx, hy, hs⟩⟩

theorem seals_ofE : ∀ {es : List (List AV)}, TypedE E 37 es → ∃ l : List Seal, es = l.map Seal.cells ∧ ∀ s ∈ l, s.Ok
  | [], _ => ⟨[], rfl, fun _ h => by cases h⟩
  | _ :: _, .cons h hr => by
    obtain ⟨s, rfl, hs⟩ := seal_of h
    obtain ⟨l, rfl, hl⟩ := seals_ofE hr
    exact ⟨s :: l, rfl, fun x hx => by
      rcases List.mem_cons.1 hx with e | e
      · rw [e]; exact hs
      · exact hl x e⟩

theorem seals_of {vs : List AV} (h : TypedC E 22 vs) : ∃ l : List Seal, vs = [.sl 12 (l.map Seal.cells)] ∧ l.length ≤ maxLen ∧ ∀ s ∈ l, s.Ok := by
  cases h with
  | bool h hd b => rw [ty22] at h; cases h; cases hd
  | int h hd hw => rw [ty22] at h; cases h; cases hd
  | str h hd hs => rw [ty22] at h; cases h; cases hd
  | struct h hd hf => rw [ty22] at h; cases h; cases hd
  | sl h hd hj hl hes =>
    rw [ty22] at h; cases h; cases hd
    rw [ty37] at hj; cases hj
    obtain ⟨l, rfl, hs⟩ := seals_ofE hes
    exact ⟨l, rfl, by simpa using hl, hs⟩

def flatTs : List Nat := [3, 4, 9, 22, 23, 25, 29, 31, 33, 35, 37, 55, 66]
theorem flatTs_ok : flatAll E flatTs = true := by kernel_rfl

mutual
theorem dsz_le {H : Type} : ∀ d : DataW H, dsz d ≤ Ytgjjdaillajgbaa.Rows.uptoBulk d
  | .lit l => by cases l <;> simp [dsz, Ytgjjdaillajgbaa.Rows.uptoBulk]
  | .nil => by simp [dsz, Ytgjjdaillajgbaa.Rows.uptoBulk]
  | .ptr d => by simp [dsz, Ytgjjdaillajgbaa.Rows.uptoBulk]
  | .slice e s => by have := dszL_le e; simp only [dsz, Ytgjjdaillajgbaa.Rows.uptoBulk]; omega
  | .agg p => by have := dszL_le p; simp only [dsz, Ytgjjdaillajgbaa.Rows.uptoBulk]; omega
  | .iface _ d => by simp [dsz, Ytgjjdaillajgbaa.Rows.uptoBulk]
  | .map _ => by simp [dsz, Ytgjjdaillajgbaa.Rows.uptoBulk]
  | .held _ => by simp [dsz, Ytgjjdaillajgbaa.Rows.uptoBulk]
theorem dszL_le {H : Type} : ∀ l : List (DataW H), dszL l ≤ Ytgjjdaillajgbaa.Rows.uptoBulkAll l
  | [] => by simp [dszL, Ytgjjdaillajgbaa.Rows.uptoBulkAll]
  | d :: r => by have := dsz_le d; have := dszL_le r; simp only [dszL, Ytgjjdaillajgbaa.Rows.uptoBulkAll]; omega
end
end Go.Sh.T
