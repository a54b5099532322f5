/- CkB: part of the proof: a shadow of the machine that is proved sound, and what the functions of this seat compute. Conditions: none. -/
import Derived.Test.YtgjjdaillajgbaaCkT
import Derived.Test.YtgjjdaillajgbaaCkA
namespace Go.Sh.T
open Go Go.Sh

theorem lenA29 (es : List (List AV)) : lenA E 29 (.sl 5 es) = some (es.length : Int) := (Eq.refl _).trans (by kernel_rfl)


end Go.Sh.T

namespace Go.Sh.T
open Go Go.Sh

theorem ty3 : E.ty 3 = some ti3 := by kernel_rfl
theorem ty9 : E.ty 9 = some ti9 := by kernel_rfl
theorem ty29 : E.ty 29 = some ti29 := by kernel_rfl
theorem ty31 : E.ty 31 = some ti31 := by kernel_rfl
theorem ty33 : E.ty 33 = some ti33 := by kernel_rfl

theorem int_of {t : TypeId} {vs : List AV} (h : TypedC E t vs) (e : E.ty t = some ti3) : ∃ n, vs = [.lit (.int .i64 n)] ∧ (Lit.int .i64 n).wf = true := by
  cases h with
  | bool h hd b => rw [e] at h; cases h; cases hd
  | int h hd hw => rw [e] at h; cases h; cases hd; exact ⟨_, rfl, hw⟩
  | str h hd hs => rw [e] at h; cases h; cases hd
  | sl h hd hj hl hes => rw [e] at h; cases h; cases hd
  | struct h hd hf => rw [e] at h; cases h; cases hd

theorem str_of {t : TypeId} {vs : List AV} (h : TypedC E t vs) (e : E.ty t = some ti9) : ∃ s, vs = strC s ∧ s.size ≤ maxLen := by
  cases h with
  | bool h hd b => rw [e] at h; cases h; cases hd
  | int h hd hw => rw [e] at h; cases h; cases hd
  | str h hd hs => exact ⟨_, rfl, hs⟩
  | sl h hd hj hl hes => rw [e] at h; cases h; cases hd
  | struct h hd hf => rw [e] at h; cases h; cases hd

theorem strs_of : ∀ {es : List (List AV)}, TypedE E 9 es → ∃ l : List ByteArray, es = l.map strC ∧ ∀ s ∈ l, s.size ≤ maxLen
  | [], _ => ⟨[], rfl, fun _ h => by cases h⟩
  | _ :: _, .cons h hr => by
    obtain ⟨s, rfl, hs⟩ := str_of h ty9
    obtain ⟨l, rfl, hl⟩ := strs_of hr
    exact ⟨s :: l, rfl, fun x hx => by
      rcases List.mem_cons.1 hx with e | e
      · rw [e]; exact hs
      · exact hl x e⟩

theorem labels_of {vs : List AV} (h : TypedC E 31 vs) : ∃ l : List ByteArray, vs = [.sl 1 (l.map strC)] ∧ l.length ≤ maxLen ∧ ∀ s ∈ l, s.size ≤ maxLen := by
  cases h with
  | bool h hd b => rw [ty31] at h; cases h; cases hd
  | int h hd hw => rw [ty31] at h; cases h; cases hd
  | str h hd hs => rw [ty31] at h; cases h; cases hd
  | sl h hd hj hl hes =>
    rw [ty31] at h; cases h; cases hd
    rw [ty9] at hj; cases hj
    obtain ⟨l, rfl, hs⟩ := strs_of hes
    exact ⟨l, rfl, by simpa using hl, hs⟩
  | struct h hd hf => rw [ty31] at h; cases h; cases hd

theorem ty_fuel : ∀ n : Nat, (∀ vs : List AV, SizeOf.sizeOf vs < n → TypedC E 33 vs → ∃ x : Ty, vs = x.cells ∧ x.Ok) ∧ (∀ es : List (List AV), SizeOf.sizeOf es < n → TypedE E 33 es → ∃ l : List Ty, es = l.map Ty.cells ∧ ∀ x ∈ l, x.Ok)
  | 0 => ⟨fun _ h => by omega, fun _ h => by omega⟩
  | n + 1 => by
    obtain ⟨ihC, ihE⟩ := ty_fuel n
    refine ⟨fun vs hlt h => ?_, fun es hlt h => ?_⟩
    · cases h with
      | bool h hd b => rw [ty33] at h; cases h; cases hd
      | int h hd hw => rw [ty33] at h; cases h; cases hd
      | str h hd hs => rw [ty33] at h; cases h; cases hd
      | sl h hd hj hl hes => rw [ty33] at h; cases h; cases hd
      | struct h hd hf =>
        rw [ty33] at h; cases h; cases hd
        cases hf with
        | cons h1 hf =>
          cases hf with
          | cons h2 hf =>
            cases hf with
            | cons h3 hf =>
              cases hf with
              | cons h4 hf =>
                cases hf with
                | cons h5 hf =>
                  cases hf
                  obtain ⟨k, rfl, hk⟩ := int_of h1 ty3
                  obtain ⟨m, rfl, hn⟩ := int_of h2 ty3
                  obtain ⟨s, rfl, hs⟩ := str_of h3 ty9
                  obtain ⟨ls, rfl, hl, hls⟩ := labels_of h4
                  cases h5 with
                  | bool h hd b => rw [ty29] at h; cases h; cases hd
                  | int h hd hw => rw [ty29] at h; cases h; cases hd
                  | str h hd hs => rw [ty29] at h; cases h; cases hd
                  | struct h hd hf => rw [ty29] at h; cases h; cases hd
                  | sl h hd hj hl5 hes =>
                    rw [ty29] at h; cases h; cases hd
                    rw [ty33] at hj; cases hj
                    obtain ⟨xs, rfl, hx⟩ := ihE _ (by
                      simp only [strC, List.flatten_cons, List.flatten_nil, List.cons_append, List.nil_append, List.cons.sizeOf_spec, AV.sl.sizeOf_spec] at hlt
                      omega) hes
                    exact ⟨⟨k, m, s, ls, xs⟩, by rw [Ty.cells_eq]; rfl, .mk hk hn hs hl hls (by simpa using hl5) hx⟩
    · cases h with
      | nil => exact ⟨[], rfl, fun _ h => by cases h⟩
      | cons h hr =>
        simp only [List.cons.sizeOf_spec] at hlt
        obtain ⟨x, rfl, hx⟩ := ihC _ (by omega) h
        obtain ⟨l, rfl, hl⟩ := ihE _ (by omega) hr
        exact ⟨x :: l, rfl, fun y hy => by
          rcases List.mem_cons.1 hy with e | e
          · rw [e]; exact hx
          · exact hl y e⟩

theorem ty_of {vs : List AV} (h : TypedC E 33 vs) : ∃ x : Ty, vs = x.cells ∧ x.Ok := (ty_fuel _).1 vs (Nat.lt_succ_self _) h
theorem tys_of {es : List (List AV)} (h : TypedE E 33 es) : ∃ l : List Ty, es = l.map Ty.cells ∧ ∀ x ∈ l, x.Ok := (ty_fuel _).2 es (Nat.lt_succ_self _) h
end Go.Sh.T

namespace Go.Sh.T
open Go Go.Sh
set_option linter.unusedSimpArgs false

theorem has_spec : ∀ (t : Ty) (k : Int) (h : Heap), t.Ok → evw E 27 [.agg t.cells, .lit (.int .i64 k)] h = some (.ret (.lit (.bool (t.has k))), h)
  | t, k, h, ok => by
    have loop : ∀ (m i : Nat), i ≤ t.args.length → t.args.length < m + i → Lp27_0 (evw E) (t.args.length + 1) h m h (.lit (.int .i64 k)) (.lit (.int .i64 t.k)) (.lit (.int .i64 t.n)) (.lit (.string t.name)) (.sl 1 (t.labels.map strC)) (.sl 5 (t.args.map Ty.cells)) (.lit (.int .i64 (i : Int))) = some (.ret (.lit (.bool (Ty.hasL k (t.args.drop i)))), h) := by
      intro m
      induction m with
      | zero => intro i h1 h2; omega
      | succ m ih =>
        intro i h1 h2
        have hlen := ok.len
        rw [Lp27_0_succ]
        simp only [lenA29, bind_some', bin_int, intBin, boolOf, List.length_map]
        by_cases hi : i < t.args.length
        · have hrec := has_spec (t.args[i]) k h (ok.arg (List.getElem_mem hi))
          simp only [show decide ((i : Int) < (t.args.length : Int)) = true from by simpa using hi, cond_true, indexA_map _ _ _ _ hi, bind_some', partA_full (Ty.cells_len _), hrec, onOut_ret, bin_int, intBin, boolOf]
          rw [List.drop_eq_getElem_cons hi, Ty.hasL, IntWalk.i64_in ((i : Int) + 1) (by omega)]
          cases e : (t.args[i]).has k with
          | true => rfl
          | false => exact ih (i + 1) hi (by omega)
        · simp only [show decide ((i : Int) < (t.args.length : Int)) = false from by simpa using hi, cond_false]
          rw [List.drop_of_length_le (by omega), Ty.hasL]
    refine evw_run primsC (t.args.length + 1) rfl rfl rfl ?_
    rw [nf27]
    simp only [aggOf, bind_some', Ty.cells_len, Ty.c0, Ty.c1, Ty.c2, Ty.c3, Ty.c4, bin_int, intBin, boolOf, show Nat.beq 5 5 = true from rfl, cond_true]
    rw [Ty.has_eq]
    cases e : t.k == k with
    | true => rfl
    | false =>
      have := loop (t.args.length + 1) 0 (Nat.zero_le _) (by omega)
      rw [List.drop_zero] at this
      exact this
  termination_by t => SizeOf.sizeOf t
  decreasing_by exact Ty.size_arg hi

theorem closed_spec (t : Ty) (h : Heap) (ok : t.Ok) : evw E 75 [.agg t.cells] h = some (.ret (.lit (.bool (!t.has 6))), h) := by
  refine evw_run primsC 0 rfl rfl rfl ?_
  rw [nf75]
  simp only [aggOf, bind_some', Ty.cells_len, Ty.refold, show Nat.beq 5 5 = true from rfl, cond_true, has_spec t 6 h ok, onOut_ret, unAV]

mutual
def Ty.ahead (n : Int) : Ty → Bool
  | ⟨k, m, _, _, xs⟩ => !(k == 9 && decide (m ≥ n)) && Ty.aheadL n xs
def Ty.aheadL (n : Int) : List Ty → Bool
  | [] => true
  | t :: r => t.ahead n && Ty.aheadL n r
end
theorem Ty.ahead_eq (n : Int) (t : Ty) : t.ahead n = (!(t.k == 9 && decide (t.n ≥ n)) && Ty.aheadL n t.args) := by cases t; rw [Ty.ahead]

theorem ahead_spec : ∀ (t : Ty) (k : Int) (h : Heap), t.Ok → evw E 76 [.agg t.cells, .lit (.int .i64 k)] h = some (.ret (.lit (.bool (t.ahead k))), h)
  | t, k, h, ok => by
    have loop : ∀ (m i : Nat), i ≤ t.args.length → t.args.length < m + i → Lp76_0 (evw E) (t.args.length + 1) h m h (.lit (.int .i64 k)) (.lit (.int .i64 t.k)) (.lit (.int .i64 t.n)) (.lit (.string t.name)) (.sl 1 (t.labels.map strC)) (.sl 5 (t.args.map Ty.cells)) (.lit (.int .i64 (i : Int))) = some (.ret (.lit (.bool (Ty.aheadL k (t.args.drop i)))), h) := by
      intro m
      induction m with
      | zero => intro i h1 h2; omega
      | succ m ih =>
        intro i h1 h2
        have hlen := ok.len
        rw [Lp76_0_succ]
        simp only [lenA29, bind_some', bin_int, intBin, boolOf, List.length_map]
        by_cases hi : i < t.args.length
        · have hrec := ahead_spec (t.args[i]) k h (ok.arg (List.getElem_mem hi))
          simp only [show decide ((i : Int) < (t.args.length : Int)) = true from by simpa using hi, cond_true, indexA_map _ _ _ _ hi, bind_some', partA_full (Ty.cells_len _), hrec, onOut_ret, bin_int, intBin, boolOf, unAV]
          rw [List.drop_eq_getElem_cons hi, Ty.aheadL, IntWalk.i64_in ((i : Int) + 1) (by omega)]
          cases e : (t.args[i]).ahead k with
          | false => rfl
          | true => exact ih (i + 1) hi (by omega)
        · simp only [show decide ((i : Int) < (t.args.length : Int)) = false from by simpa using hi, cond_false]
          rw [List.drop_of_length_le (by omega), Ty.aheadL]
    refine evw_run primsC (t.args.length + 1) rfl rfl rfl ?_
    rw [nf76]
    simp only [aggOf, bind_some', Ty.cells_len, Ty.c0, Ty.c1, Ty.c2, Ty.c3, Ty.c4, bin_int, intBin, boolOf, show Nat.beq 5 5 = true from rfl, cond_true]
    have := loop (t.args.length + 1) 0 (Nat.zero_le _) (by omega)
    rw [List.drop_zero, show ((0 : Nat) : Int) = 0 from rfl] at this
    rw [Ty.ahead_eq, this]
    cases e : t.k == 9 with
    | false => rfl
    | true =>
      cases e2 : decide (t.n ≥ k) <;> simp [e2]
  termination_by t => SizeOf.sizeOf t
  decreasing_by exact Ty.size_arg hi
end Go.Sh.T

namespace Go.Sh.T
open Go Go.Sh
set_option linter.unusedSimpArgs false

def strEq (x y : ByteArray) : Bool := x.toList == y.toList
def sameS : List ByteArray → List ByteArray → Bool
  | [], _ => true
  | _, [] => true
  | x :: l, y :: m => strEq x y && sameS l m

theorem lenA31 (es : List (List AV)) : lenA E 31 (.sl 1 es) = some (es.length : Int) := (Eq.refl _).trans (by kernel_rfl)
theorem bin_str (T : TypeId) (op : BinOp) (x y : ByteArray) : binAV E op T (.lit (.string x)) (.lit (.string y)) = strBin op x y := (Eq.refl _).trans rfl
theorem part_str (s : ByteArray) : partA false 1 0 (strC s) = some (.lit (.string s)) := (Eq.refl _).trans rfl

theorem same79 (l m : List ByteArray) (hl : l.length ≤ maxLen) (h : Heap) : evw E 79 [.sl 1 (l.map strC), .sl 1 (m.map strC)] h = some (.ret (.lit (.bool (decide (l.length = m.length) && sameS l m))), h) := by
  have hl : l.length ≤ 9223372036854775807 := hl
  have loop : ∀ (q i : Nat), i ≤ l.length → l.length < q + i → Lp79_0 (evw E) (l.length + 1) h q h (.sl 1 (l.map strC)) (.sl 1 (m.map strC)) (.lit (.int .i64 (i : Int))) = some (.ret (.lit (.bool (sameS (l.drop i) (m.drop i)))), h) := by
    intro q
    induction q with
    | zero => intro i h1 h2; omega
    | succ q ih =>
      intro i h1 h2
      rw [Lp79_0_succ]
      simp only [lenA31, bind_some', bin_int, intBin, boolOf, List.length_map]
      by_cases hi : i < l.length
      · simp only [show decide ((i : Int) < (l.length : Int)) = true from by simpa using hi, cond_true]
        by_cases hj : i < m.length
        · simp only [show decide ((i : Int) < (m.length : Int)) = true from by simpa using hj, cond_true, indexA_map _ _ _ _ hi, indexA_map _ _ _ _ hj, bind_some', part_str, bin_str, strBin, boolOf]
          rw [List.drop_eq_getElem_cons hi, List.drop_eq_getElem_cons hj, sameS, IntWalk.i64_in ((i : Int) + 1) (by omega)]
          unfold strEq
          cases e : l[i].toList == m[i].toList with
          | false => rfl
          | true => exact ih (i + 1) hi (by omega)
        · simp only [show decide ((i : Int) < (m.length : Int)) = false from by simpa using hj, cond_false]
          rw [show m.drop i = [] from List.drop_eq_nil_of_le (by omega)]
          cases l.drop i <;> rfl
      · simp only [show decide ((i : Int) < (l.length : Int)) = false from by simpa using hi, cond_false]
        rw [show l.drop i = [] from List.drop_eq_nil_of_le (by omega)]
        rfl
  refine evw_run primsC (l.length + 1) rfl rfl rfl ?_
  rw [nf79]
  simp only [lenA31, bind_some', bin_int, intBin, boolOf, List.length_map]
  have hx : ((l.length : Int) != (m.length : Int)) = !decide (l.length = m.length) := by
    by_cases e : l.length = m.length
    · simp [e]
    · have : (l.length : Int) ≠ (m.length : Int) := by omega
      simp [e, this]
  rw [hx]
  cases e : decide (l.length = m.length) with
  | false => rfl
  | true =>
    have := loop (l.length + 1) 0 (Nat.zero_le _) (by omega)
    rw [show ((0 : Nat) : Int) = 0 from rfl, List.drop_zero, List.drop_zero] at this
    simp only [Bool.not_true, cond_false, Bool.true_and]
    exact this
end Go.Sh.T

namespace Go.Sh.T
open Go Go.Sh
set_option linter.unusedSimpArgs false

mutual
def Ty.same : Ty → Ty → Bool
  | ⟨k, n, s, ls, xs⟩, u => !(k != u.k) && !(n != u.n) && strEq s u.name && (decide (ls.length = u.labels.length) && sameS ls u.labels) && decide (xs.length = u.args.length) && Ty.sameL xs u.args
def Ty.sameL : List Ty → List Ty → Bool
  | [], _ => true
  | t :: r, m => match m with
    | [] => true
    | u :: m => Ty.same t u && Ty.sameL r m
end
theorem Ty.same_eq (t u : Ty) : t.same u = (!(t.k != u.k) && !(t.n != u.n) && strEq t.name u.name && (decide (t.labels.length = u.labels.length) && sameS t.labels u.labels) && decide (t.args.length = u.args.length) && Ty.sameL t.args u.args) := by
  cases t; rw [Ty.same]
theorem Ty.sameL_nil (l : List Ty) : Ty.sameL l [] = true := by cases l <;> rw [Ty.sameL]

theorem Ty.Ok.lab {t : Ty} (h : t.Ok) : t.labels.length ≤ maxLen := by cases h with | mk _ _ _ hl _ _ _ => exact hl

theorem same_spec : ∀ (t u : Ty) (h : Heap), t.Ok → evw E 23 [.agg t.cells, .agg u.cells] h = some (.ret (.lit (.bool (t.same u))), h)
  | t, u, h, ok => by
    have loop : ∀ (q i : Nat), i ≤ t.args.length → t.args.length < q + i → Lp23_0 (evw E) (t.args.length + 1) h q h (.lit (.int .i64 t.k)) (.lit (.int .i64 t.n)) (.lit (.string t.name)) (.sl 1 (t.labels.map strC)) (.sl 5 (t.args.map Ty.cells)) (.lit (.int .i64 u.k)) (.lit (.int .i64 u.n)) (.lit (.string u.name)) (.sl 1 (u.labels.map strC)) (.sl 5 (u.args.map Ty.cells)) (.lit (.int .i64 (i : Int))) = some (.ret (.lit (.bool (Ty.sameL (t.args.drop i) (u.args.drop i)))), h) := by
      intro q
      induction q with
      | zero => intro i h1 h2; omega
      | succ q ih =>
        intro i h1 h2
        have hlen := ok.len
        rw [Lp23_0_succ]
        simp only [lenA29, bind_some', bin_int, intBin, boolOf, List.length_map]
        by_cases hi : i < t.args.length
        · simp only [show decide ((i : Int) < (t.args.length : Int)) = true from by simpa using hi, cond_true]
          by_cases hj : i < u.args.length
          · have hrec := same_spec (t.args[i]) (u.args[i]) h (ok.arg (List.getElem_mem hi))
            simp only [show decide ((i : Int) < (u.args.length : Int)) = true from by simpa using hj, cond_true, indexA_map _ _ _ _ hi, indexA_map _ _ _ _ hj, bind_some', partA_full (Ty.cells_len _), hrec, onOut_ret, unAV, boolOf]
            rw [List.drop_eq_getElem_cons hi, List.drop_eq_getElem_cons hj, Ty.sameL, IntWalk.i64_in ((i : Int) + 1) (by omega)]
            cases e : (t.args[i]).same (u.args[i]) with
            | false => rfl
            | true => exact ih (i + 1) hi (by omega)
          · simp only [show decide ((i : Int) < (u.args.length : Int)) = false from by simpa using hj, cond_false]
            rw [show u.args.drop i = [] from List.drop_eq_nil_of_le (by omega), Ty.sameL_nil]
        · simp only [show decide ((i : Int) < (t.args.length : Int)) = false from by simpa using hi, cond_false]
          rw [show t.args.drop i = [] from List.drop_eq_nil_of_le (by omega), Ty.sameL]
    refine evw_run primsC (t.args.length + 1) rfl rfl rfl ?_
    rw [nf23]
    simp only [aggOf, bind_some', Ty.cells_len, Ty.c0, Ty.c1, Ty.c2, Ty.c3, Ty.c4, bin_int, intBin, bin_str, strBin, boolOf, show Nat.beq 5 5 = true from rfl, cond_true, same79 _ _ ok.lab, onOut_ret, unAV, lenA29, List.length_map]
    rw [Ty.same_eq]
    have hx : ((t.args.length : Int) != (u.args.length : Int)) = !decide (t.args.length = u.args.length) := by
      by_cases e : t.args.length = u.args.length
      · simp [e]
      · have : (t.args.length : Int) ≠ (u.args.length : Int) := by omega
        simp [e, this]
    have hl := loop (t.args.length + 1) 0 (Nat.zero_le _) (by omega)
    rw [show ((0 : Nat) : Int) = 0 from rfl, List.drop_zero, List.drop_zero] at hl
    rw [hx, hl]
    unfold strEq
    cases t.k != u.k <;> cases t.n != u.n <;> cases t.name.toList == u.name.toList <;> cases (decide (t.labels.length = u.labels.length) && sameS t.labels u.labels) <;> cases decide (t.args.length = u.args.length) <;> rfl
  termination_by t => SizeOf.sizeOf t
  decreasing_by exact Ty.size_arg hi
end Go.Sh.T

namespace Go.Sh.T
open Go Go.Sh
set_option linter.unusedSimpArgs false
set_option linter.unusedVariables false

theorem cond_ret (b : Bool) (x y : Value) (h : Heap) : cond b (some (Out.ret (.lit x), h)) (some (.ret (.lit y), h)) = some (.ret (.lit (cond b x y)), h) := by cases b <;> rfl

theorem lenS (s : ByteArray) : lenA E 9 (.lit (.string s)) = some (s.size : Int) := (Eq.refl _).trans (by kernel_rfl)
theorem indexS_at (s : ByteArray) (i : Nat) (h : i < (bytes s).length) : indexS (.lit (.string s)) (.lit (.int .i64 (i : Int))) = some (.lit (.int .u8 ((bytes s)[i].toNat : Int))) := by
  unfold indexS
  simp only [strOf, intOf, Option.bind_some, show decide ((0 : Int) ≤ (i : Int)) = true from by simp, cond_true, Int.toNat_natCast]
  have h' : i < s.size := by rw [← bytes_len]; exact h
  rw [getElem?_pos s i h']
  rfl

/- low, up, digit -/
theorem low_spec (c : Int) (h : Heap) : evw E 163 [.lit (.int .u8 c)] h = some (.ret (.lit (.bool (lowB c))), h) := by
  refine evw_run primsC 0 rfl rfl rfl ?_
  rw [nf163]; simp only [bin_int, intBin, bind_some', boolOf, cond_ret, lowB]; cases decide (c ≥ 97) <;> rfl
theorem up_spec (c : Int) (h : Heap) : evw E 164 [.lit (.int .u8 c)] h = some (.ret (.lit (.bool (upB c))), h) := by
  refine evw_run primsC 0 rfl rfl rfl ?_
  rw [nf164]; simp only [bin_int, intBin, bind_some', boolOf, cond_ret, upB]; cases decide (c ≥ 65) <;> rfl
theorem dig_spec (c : Int) (h : Heap) : evw E 165 [.lit (.int .u8 c)] h = some (.ret (.lit (.bool (digB c))), h) := by
  refine evw_run primsC 0 rfl rfl rfl ?_
  rw [nf165]; simp only [bin_int, intBin, bind_some', boolOf, cond_ret, digB]; cases decide (c ≥ 48) <;> rfl

/- kept -/
def keys3 : List ByteArray := [⟨#[108, 101, 116]⟩, ⟨#[105, 110]⟩, ⟨#[105, 102]⟩, ⟨#[116, 104, 101, 110]⟩, ⟨#[101, 108, 115, 101]⟩, ⟨#[102, 110]⟩, ⟨#[99, 97, 108, 108]⟩, ⟨#[100, 101, 102]⟩, ⟨#[116, 114, 117, 101]⟩, ⟨#[102, 97, 108, 115, 101]⟩]
def keys4 : List ByteArray := [⟨#[73, 110, 116]⟩, ⟨#[66, 111, 111, 108]⟩, ⟨#[83, 116, 114, 105, 110, 103]⟩, ⟨#[84, 111, 112]⟩]
def keptR (s : ByteArray) : Int := bif keys3.any (fun k => strEq k s) then 3 else bif keys4.any (fun k => strEq k s) then 4 else 0

theorem kept_spec (s : ByteArray) (h : Heap) : evw E 162 [.lit (.string s)] h = some (.ret (.lit (.int .i64 (keptR s))), h) := by
  have loop1 : ∀ (l : List ByteArray) (q i : Nat), l.length ≤ 10 → i ≤ l.length → l.length < q + i → Lp162_1 (evw E) 20 h q h (.lit (.string s)) (l.map strC) (.lit (.int .i64 (i : Int))) = some (.ret (.lit (.int .i64 (bif (l.drop i).any (fun k => strEq k s) then 4 else 0))), h) := by
    intro l q
    induction q with
    | zero => intro i h1 h2; omega
    | succ q ih =>
      intro i h0 h1 h2
      rw [Lp162_1_succ]
      simp only [lenA31, bind_some', bin_int, intBin, boolOf, List.length_map]
      by_cases hi : i < l.length
      · simp only [show decide ((i : Int) < (l.length : Int)) = true from by simpa using hi, cond_true, indexA_map _ _ _ _ hi, bind_some', part_str, bin_str, strBin, boolOf]
        rw [List.drop_eq_getElem_cons hi, List.any_cons, IntWalk.i64_in ((i : Int) + 1) (by omega)]
        unfold strEq
        cases e : l[i].toList == s.toList with
        | true => rfl
        | false => exact ih (i + 1) h0 hi (by omega)
      · simp only [show decide ((i : Int) < (l.length : Int)) = false from by simpa using hi, cond_false]
        rw [show l.drop i = [] from List.drop_eq_nil_of_le (by omega)]
        rfl
  have loop0 : ∀ (l : List ByteArray) (q i : Nat), l.length ≤ 10 → i ≤ l.length → l.length < q + i → Lp162_0 (evw E) 20 h q h (.lit (.string s)) (l.map strC) (.lit (.int .i64 (i : Int))) = some (.ret (.lit (.int .i64 (bif (l.drop i).any (fun k => strEq k s) then 3 else bif keys4.any (fun k => strEq k s) then 4 else 0))), h) := by
    intro l q
    induction q with
    | zero => intro i h1 h2; omega
    | succ q ih =>
      intro i h0 h1 h2
      rw [Lp162_0_succ]
      simp only [lenA31, bind_some', bin_int, intBin, boolOf, List.length_map]
      by_cases hi : i < l.length
      · simp only [show decide ((i : Int) < (l.length : Int)) = true from by simpa using hi, cond_true, indexA_map _ _ _ _ hi, bind_some', part_str, bin_str, strBin, boolOf]
        rw [List.drop_eq_getElem_cons hi, List.any_cons, IntWalk.i64_in ((i : Int) + 1) (by omega)]
        unfold strEq
        cases e : l[i].toList == s.toList with
        | true => rfl
        | false => exact ih (i + 1) h0 hi (by omega)
      · simp only [show decide ((i : Int) < (l.length : Int)) = false from by simpa using hi, cond_false]
        rw [show l.drop i = [] from List.drop_eq_nil_of_le (by omega)]
        exact loop1 keys4 20 0 (by decide) (by decide) (by decide)
  refine evw_run primsC 20 rfl rfl rfl ?_
  rw [nf162]
  exact loop0 keys3 20 0 (by decide) (by decide) (by decide)

/- kind -/
def badR (kind c : Int) : Bool := !digB c && !lowB c && (!upB c || kind == 1)
def kindL (kind : Int) : List UInt8 → Int
  | [] => kind
  | c :: r => bif badR kind c.toNat then 0 else kindL kind r
def kind0 (c : Int) : Int := bif upB c then 2 else bif lowB c then 1 else 0
def kindR (s : ByteArray) : Int := bif keptR s != 0 then keptR s else match bytes s with
  | [] => 0
  | c :: r => bif decide (r.length ≥ 8) then 0 else kindL (kind0 c.toNat) r

theorem kind_loop (s : ByteArray) (h : Heap) : ∀ (kind : Int) (q i : Nat), (bytes s).length ≤ 8 → i ≤ (bytes s).length → (bytes s).length < q + i → Lp132_0 (evw E) 20 h q h (.lit (.string s)) (.lit (.int .i64 kind)) (.lit (.int .i64 (i : Int))) = some (.ret (.lit (.int .i64 (kindL kind ((bytes s).drop i)))), h) := by
    intro kind q
    induction q with
    | zero => intro i h1 h2; omega
    | succ q ih =>
      intro i h0 h1 h2
      rw [Lp132_0_succ]
      simp only [lenS, ← bytes_len, bind_some', bin_int, intBin, boolOf]
      by_cases hi : i < (bytes s).length
      · simp only [show decide ((i : Int) < ((bytes s).length : Int)) = true from by simpa using hi, cond_true, indexS_at s i hi, bind_some', dig_spec, low_spec, up_spec, onOut_ret, unAV, boolOf, bin_int, intBin]
        rw [List.drop_eq_getElem_cons hi, kindL, IntWalk.i64_in ((i : Int) + 1) (by omega), badR]
        have := ih (i + 1) h0 hi (by omega)
        simp only [Int.natCast_add, Int.cast_ofNat_Int] at this
        rw [this]
        cases digB (bytes s)[i].toNat <;> cases lowB (bytes s)[i].toNat <;> cases upB (bytes s)[i].toNat <;> cases kind == 1 <;> rfl
      · simp only [show decide ((i : Int) < ((bytes s).length : Int)) = false from by simpa using hi, cond_false]
        rw [show (bytes s).drop i = [] from List.drop_eq_nil_of_le (by omega)]
        rfl
end Go.Sh.T

namespace Go.Sh.T
open Go Go.Sh
set_option linter.unusedSimpArgs false
set_option linter.unusedVariables false
theorem kind_spec (s : ByteArray) (h : Heap) : evw E 132 [.lit (.string s)] h = some (.ret (.lit (.int .i64 (kindR s))), h) := by
  have loop := kind_loop s h
  refine evw_run primsC 20 rfl rfl rfl ?_
  rw [nf132]
  simp only [kept_spec, onOut_ret, bin_int, intBin, bind_some', boolOf, lenS, ← bytes_len]
  unfold kindR
  cases e : keptR s != 0 with
  | true => rfl
  | false =>
    simp only [condF]
    cases hb : bytes s with
    | nil => rfl
    | cons c r =>
      rw [hb] at loop
      have hi0 : 0 < (bytes s).length := by rw [hb]; simp
      have h0 := indexS_at s 0 hi0
      rw [show ((0 : Nat) : Int) = 0 from rfl] at h0
      have hg : (bytes s)[0] = c := by simp [hb]
      rw [hg] at h0
      simp only [h0, bind_some', up_spec, low_spec, onOut_ret, boolOf, List.length_cons]
      have e1 : decide (((r.length + 1 : Nat) : Int) < 1) = false := by simp; omega
      rw [e1, cond_false]
      by_cases h8 : r.length ≥ 8
      · rw [show decide (r.length ≥ 8) = true from by simpa using h8, show decide (((r.length + 1 : Nat) : Int) > 8) = true from by simp; omega]; rfl
      · rw [show decide (r.length ≥ 8) = false from by simpa using h8, show decide (((r.length + 1 : Nat) : Int) > 8) = false from by simp; omega]
        simp only [condF]
        have hl : ∀ kind : Int, Lp132_0 (evw E) 20 h 20 h (.lit (.string s)) (.lit (.int .i64 kind)) (.lit (.int .i64 1)) = some (.ret (.lit (.int .i64 (kindL kind r))), h) := by
          intro kind
          have := loop kind 20 1 (by simp; omega) (by simp) (by simp; omega)
          rw [show ((1 : Nat) : Int) = 1 from rfl, show List.drop 1 (c :: r) = r from rfl] at this
          exact this
        rw [hl, hl, hl]
        unfold kind0
        cases upB c.toNat <;> cases lowB c.toNat <;> rfl

end Go.Sh.T

namespace Go.Sh.T
open Go Go.Sh
set_option linter.unusedSimpArgs false
set_option linter.unusedVariables false
theorem fine_spec (s : ByteArray) (h : Heap) : evw E 133 [.lit (.string s)] h = some (.ret (.lit (.bool (kindR s == 1))), h) := by
  refine evw_run primsC 0 rfl rfl rfl ?_
  rw [nf133]; simp only [kind_spec, onOut_ret, bin_int, intBin, bind_some']
theorem var_spec (s : ByteArray) (h : Heap) : evw E 80 [.lit (.string s)] h = some (.ret (.lit (.bool (kindR s == 2))), h) := by
  refine evw_run primsC 0 rfl rfl rfl ?_
  rw [nf80]; simp only [kind_spec, onOut_ret, bin_int, intBin, bind_some']

/- rising -/
def strLt (x y : ByteArray) : Bool := Op.bytesLess x.toList y.toList
def gapR (p : Option ByteArray) (s : ByteArray) : Bool := match p with
  | none => true
  | some q => strLt q s
def risingR : List ByteArray → Option ByteArray → Bool
  | [], _ => true
  | s :: r, p => kindR s == 1 && gapR p s && risingR r (some s)

theorem rising_spec (l : List ByteArray) (hl : l.length ≤ maxLen) (h : Heap) : evw E 81 [.sl 1 (l.map strC)] h = some (.ret (.lit (.bool (risingR l none))), h) := by
  have hl : l.length ≤ 9223372036854775807 := hl
  have loop : ∀ (q i : Nat), i ≤ l.length → l.length < q + i → Lp81_0 (evw E) (l.length + 1) h q h (.sl 1 (l.map strC)) (.lit (.int .i64 (i : Int))) = some (.ret (.lit (.bool (risingR (l.drop i) (if i = 0 then none else l[i - 1]?)))), h) := by
    intro q
    induction q with
    | zero => intro i h1 h2; omega
    | succ q ih =>
      intro i h1 h2
      rw [Lp81_0_succ]
      simp only [lenA31, bind_some', bin_int, intBin, boolOf, List.length_map]
      by_cases hi : i < l.length
      · simp only [show decide ((i : Int) < (l.length : Int)) = true from by simpa using hi, cond_true, indexA_map _ _ _ _ hi, bind_some', part_str, fine_spec, onOut_ret, unAV, boolOf, bin_int, intBin]
        rw [List.drop_eq_getElem_cons hi, risingR, IntWalk.i64_in ((i : Int) + 1) (by omega)]
        have hn := ih (i + 1) hi (by omega)
        rw [if_neg (by omega), Nat.add_sub_cancel, List.getElem?_eq_getElem hi, Int.natCast_add, show ((1 : Nat) : Int) = 1 from rfl] at hn
        cases e : kindR l[i] == 1 with
        | false => rfl
        | true =>
          by_cases h0 : i = 0
          · subst h0
            simp only [Bool.not_true, cond_false, show decide (((0 : Nat) : Int) > 0) = false from rfl]
            rw [if_pos trivial]
            exact hn
          · have hi1 : i - 1 < l.length := by omega
            rw [if_neg h0, List.getElem?_eq_getElem hi1, IntWalk.i64_in ((i : Int) - 1) (by omega), show (i : Int) - 1 = ((i - 1 : Nat) : Int) from by omega]
            simp only [Bool.not_true, cond_false, show decide ((i : Int) > 0) = true from by simp; omega, cond_true, indexA_map _ _ _ _ hi1, indexA_map _ _ _ _ hi, bind_some', part_str, bin_str, strBin, boolOf]
            simp only [gapR, strLt, Bool.true_and]
            cases e2 : Op.bytesLess l[i - 1].toList l[i].toList with
            | false => rfl
            | true => exact hn
      · simp only [show decide ((i : Int) < (l.length : Int)) = false from by simpa using hi, cond_false]
        rw [show l.drop i = [] from List.drop_eq_nil_of_le (by omega)]
        rfl
  refine evw_run primsC (l.length + 1) rfl rfl rfl ?_
  rw [nf81]
  have := loop (l.length + 1) 0 (Nat.zero_le _) (by omega)
  rw [if_pos rfl, List.drop_zero] at this
  exact this
end Go.Sh.T

namespace Go.Sh.T
open Go Go.Sh
set_option linter.unusedSimpArgs false
set_option linter.unusedVariables false

def emptyS (s : ByteArray) : Bool := s.toList == ByteArray.empty.toList
/-- Is a node as its kind wants it? -/
def nodeR (k n : Int) (s : ByteArray) (ls : List ByteArray) (m : Nat) : Bool :=
  !((k != 6 && !emptyS s) || (k != 9 && n != 0) || (k != 8 && decide ((ls.length : Int) > 0))) &&
  (bif decide (k ≥ 1) && decide (k ≤ 5) then (m : Int) == 0 else bif k == 6 then kindR s == 2 && (m : Int) == 0 else
   bif k == 9 then decide (n ≥ 0) && (decide (n ≤ 1073741824) && (m : Int) == 0) else bif k == 7 then (m : Int) == 2 else k == 8 && (risingR ls none && (ls.length : Int) == (m : Int)))

mutual
def Ty.right : Ty → Bool
  | ⟨k, n, s, ls, xs⟩ => Ty.rightL xs && nodeR k n s ls xs.length
def Ty.rightL : List Ty → Bool
  | [] => true
  | t :: r => t.right && Ty.rightL r
end
theorem Ty.right_eq (t : Ty) : t.right = (Ty.rightL t.args && nodeR t.k t.n t.name t.labels t.args.length) := by cases t; rw [Ty.right]

theorem right_tail (t : Ty) (ok : t.Ok) (h : Heap) (m : Nat) : Lp25_0 (evw E) (t.args.length + 1) h (m + 1) h (.lit (.int .i64 t.k)) (.lit (.int .i64 t.n)) (.lit (.string t.name)) (.sl 1 (t.labels.map strC)) (.sl 5 (t.args.map Ty.cells)) (.lit (.int .i64 (t.args.length : Int))) = some (.ret (.lit (.bool (nodeR t.k t.n t.name t.labels t.args.length))), h) := by
  rw [Lp25_0_succ]
  have hl := rising_spec t.labels ok.lab h
  have h6 : t.k = 6 ∨ t.k = 7 ∨ t.k = 8 ∨ t.k = 9 ∨ (t.k ≠ 6 ∧ t.k ≠ 7 ∧ t.k ≠ 8 ∧ t.k ≠ 9) := by omega
  have e0 : decide ((t.args.length : Int) < (t.args.length : Int)) = false := by simp
  unfold nodeR emptyS
  rcases h6 with e | e | e | e | ⟨e1, e2, e3, e4⟩
  · rw [e]
    simp only [lenA29, lenA31, bind_some', bin_int, intBin, boolOf, List.length_map, e0, cond_false, cond_true, bin_str, strBin, var_spec, hl, onOut_ret, unAV, show ((6 : Int) != 6) = false from rfl, show ((6 : Int) != 9) = true from rfl, show ((6 : Int) != 8) = true from rfl, show ((6 : Int) == 6) = true from rfl, show decide ((6 : Int) ≥ 1) = true from rfl, show decide ((6 : Int) ≤ 5) = false from rfl, Bool.false_and, Bool.true_and, Bool.false_or]
    cases t.n != 0 <;> cases decide ((t.labels.length : Int) > 0) <;> cases kindR t.name == 2 <;> rfl
  · rw [e]
    simp only [lenA29, lenA31, bind_some', bin_int, intBin, boolOf, List.length_map, e0, cond_false, cond_true, bin_str, strBin, var_spec, hl, onOut_ret, unAV, show ((7 : Int) != 6) = true from rfl, show ((7 : Int) != 9) = true from rfl, show ((7 : Int) != 8) = true from rfl, show ((7 : Int) == 6) = false from rfl, show ((7 : Int) == 9) = false from rfl, show ((7 : Int) == 7) = true from rfl, show decide ((7 : Int) ≥ 1) = true from rfl, show decide ((7 : Int) ≤ 5) = false from rfl, Bool.false_and, Bool.true_and, Bool.false_or]
    cases t.name.toList == ByteArray.empty.toList <;> cases t.n != 0 <;> cases decide ((t.labels.length : Int) > 0) <;> rfl
  · rw [e]
    simp only [lenA29, lenA31, bind_some', bin_int, intBin, boolOf, List.length_map, e0, cond_false, cond_true, bin_str, strBin, var_spec, hl, onOut_ret, unAV, show ((8 : Int) != 6) = true from rfl, show ((8 : Int) != 9) = true from rfl, show ((8 : Int) != 8) = false from rfl, show ((8 : Int) == 6) = false from rfl, show ((8 : Int) == 9) = false from rfl, show ((8 : Int) == 7) = false from rfl, show ((8 : Int) == 8) = true from rfl, show decide ((8 : Int) ≥ 1) = true from rfl, show decide ((8 : Int) ≤ 5) = false from rfl, Bool.false_and, Bool.true_and, Bool.false_or]
    cases t.name.toList == ByteArray.empty.toList <;> cases t.n != 0 <;> cases risingR t.labels none <;> rfl
  · rw [e]
    simp only [lenA29, lenA31, bind_some', bin_int, intBin, boolOf, List.length_map, e0, cond_false, cond_true, bin_str, strBin, var_spec, hl, onOut_ret, unAV, show ((9 : Int) != 6) = true from rfl, show ((9 : Int) != 9) = false from rfl, show ((9 : Int) != 8) = true from rfl, show ((9 : Int) == 6) = false from rfl, show ((9 : Int) == 9) = true from rfl, show decide ((9 : Int) ≥ 1) = true from rfl, show decide ((9 : Int) ≤ 5) = false from rfl, Bool.false_and, Bool.true_and, Bool.false_or]
    cases t.name.toList == ByteArray.empty.toList <;> cases decide (t.n ≥ 0) <;> cases decide (t.n ≤ 1073741824) <;> cases decide ((t.labels.length : Int) > 0) <;> rfl
  · have d6 : (t.k != 6) = true := by simpa using e1
    have d8 : (t.k != 8) = true := by simpa using e3
    have d9 : (t.k != 9) = true := by simpa using e4
    have f6 : (t.k == 6) = false := by simpa using e1
    have f7 : (t.k == 7) = false := by simpa using e2
    have f8 : (t.k == 8) = false := by simpa using e3
    have f9 : (t.k == 9) = false := by simpa using e4
    simp only [lenA29, lenA31, bind_some', bin_int, intBin, boolOf, List.length_map, e0, cond_false, cond_true, bin_str, strBin, var_spec, hl, onOut_ret, unAV, d6, d8, d9, f6, f7, f8, f9, Bool.false_and, Bool.true_and, Bool.false_or]
    cases t.name.toList == ByteArray.empty.toList <;> cases t.n != 0 <;> cases decide ((t.labels.length : Int) > 0) <;> cases decide (t.k ≥ 1) <;> cases decide (t.k ≤ 5) <;> rfl

theorem right_spec : ∀ (t : Ty) (h : Heap), t.Ok → evw E 25 [.agg t.cells] h = some (.ret (.lit (.bool t.right)), h)
  | t, h, ok => by
    have hlen := ok.len
    have loop : ∀ (m i : Nat), i ≤ t.args.length → t.args.length < m + i → Lp25_0 (evw E) (t.args.length + 1) h m h (.lit (.int .i64 t.k)) (.lit (.int .i64 t.n)) (.lit (.string t.name)) (.sl 1 (t.labels.map strC)) (.sl 5 (t.args.map Ty.cells)) (.lit (.int .i64 (i : Int))) = some (.ret (.lit (.bool (Ty.rightL (t.args.drop i) && nodeR t.k t.n t.name t.labels t.args.length))), h) := by
      intro m
      induction m with
      | zero => intro i h1 h2; omega
      | succ m ih =>
        intro i h1 h2
        by_cases hi : i < t.args.length
        · rw [Lp25_0_succ, lenA29, bind_some', bin_int, List.length_map]
          have hrec := right_spec (t.args[i]) h (ok.arg (List.getElem_mem hi))
          rw [show intBin .lss .i64 (i : Int) (t.args.length : Int) = some (.lit (.bool true)) from by unfold intBin; rw [show decide ((i : Int) < (t.args.length : Int)) = true from by simpa using hi]]
          rw [bind_some', show boolOf (.lit (.bool true)) = some true from rfl, bind_some', condT, indexA_map _ _ _ _ hi, bind_some', partA_full (Ty.cells_len _), bind_some', hrec, onOut_ret]
          rw [List.drop_eq_getElem_cons hi, Ty.rightL, bin_int]
          simp only [unAV, bind_some', boolOf, intBin]
          rw [IntWalk.i64_in ((i : Int) + 1) (by omega)]
          cases e : (t.args[i]).right with
          | false => rfl
          | true => rw [Bool.not_true, condF, Bool.true_and]; exact ih (i + 1) hi (by omega)
        · have hi' : i = t.args.length := by omega
          subst hi'
          rw [right_tail t ok h m, List.drop_length, Ty.rightL, Bool.true_and]
    refine evw_run primsC (t.args.length + 1) rfl rfl rfl ?_
    rw [nf25]
    have := loop (t.args.length + 1) 0 (Nat.zero_le _) (by omega)
    rw [List.drop_zero, show ((0 : Nat) : Int) = 0 from rfl] at this
    rw [Ty.right_eq, ← this]
    rw [show aggOf (.agg t.cells) = some t.cells from rfl, bind_some', Ty.cells_len, show Nat.beq 5 5 = true from rfl, condT, Ty.c0, Ty.c1, Ty.c2, Ty.c3, Ty.c4]
  termination_by t => SizeOf.sizeOf t
  decreasing_by exact Ty.size_arg hi
end Go.Sh.T

namespace Go.Sh.T
open Go Go.Sh
set_option linter.unusedSimpArgs false
set_option linter.unusedVariables false

/- how much a type has -/
def quo8 (s : ByteArray) : Int := IntKind.i64.wrap ((s.size : Int).tdiv 8)
def labs (n : Int) : List ByteArray → Int
  | [] => n
  | s :: r => labs (add64 n (quo8 s)) r
mutual
def Ty.much : Ty → Int
  | ⟨_, _, s, ls, xs⟩ => Ty.muchL (labs (add64 (add64 1 (quo8 s)) ls.length) (ls.take 1000)) xs
def Ty.muchL (n : Int) : List Ty → Int
  | [] => n
  | t :: r => bif decide (n < 3000) then Ty.muchL (add64 n t.much) r else n
end
theorem Ty.much_eq (t : Ty) : t.much = Ty.muchL (labs (add64 (add64 1 (quo8 t.name)) t.labels.length) (t.labels.take 1000)) t.args := by cases t; rw [Ty.much]

theorem div8 (s : ByteArray) : intBin .quo .i64 (s.size : Int) 8 = some (.lit (.int .i64 (quo8 s))) := (Eq.refl _).trans rfl

theorem much_spec : ∀ (t : Ty) (h : Heap), t.Ok → evw E 24 [.agg t.cells] h = some (.ret (.lit (.int .i64 t.much)), h)
  | t, h, ok => by
    have hlen := ok.len
    have hlab : t.labels.length ≤ 9223372036854775807 := ok.lab
    have loop1 : ∀ (m i : Nat) (acc : Int), i ≤ t.args.length → t.args.length < m + i → Lp24_1 (evw E) (t.args.length + t.labels.length + 1) h m h (.lit (.int .i64 t.k)) (.lit (.int .i64 t.n)) (.lit (.string t.name)) (.sl 1 (t.labels.map strC)) (.sl 5 (t.args.map Ty.cells)) (.lit (.int .i64 acc)) (.lit (.int .i64 (i : Int))) = some (.ret (.lit (.int .i64 (Ty.muchL acc (t.args.drop i)))), h) := by
      intro m
      induction m with
      | zero => intro i acc h1 h2; omega
      | succ m ih =>
        intro i acc h1 h2
        rw [Lp24_1_succ]
        simp only [lenA29, bind_some', bin_int, lssI, boolB, List.length_map]
        by_cases hi : i < t.args.length
        · have hrec := much_spec (t.args[i]) h (ok.arg (List.getElem_mem hi))
          rw [show decide ((i : Int) < (t.args.length : Int)) = true from by simpa using hi, condT, List.drop_eq_getElem_cons hi, Ty.muchL]
          cases decide (acc < 3000) with
          | false => rfl
          | true =>
            rw [condT, condT]
            simp only [indexA_map _ _ _ _ hi, bind_some', partA_full (Ty.cells_len _), hrec, onOut_ret, bin_int, addI]
            rw [incI (by omega)]
            exact ih (i + 1) _ hi (by omega)
        · rw [show decide ((i : Int) < (t.args.length : Int)) = false from by simpa using hi, condF]
          rw [List.drop_of_length_le (by omega), Ty.muchL]
    have loop0 : ∀ (m i : Nat) (acc : Int), i ≤ t.labels.length → t.labels.length < m + i → Lp24_0 (evw E) (t.args.length + t.labels.length + 1) h m h (.lit (.int .i64 t.k)) (.lit (.int .i64 t.n)) (.lit (.string t.name)) (.sl 1 (t.labels.map strC)) (.sl 5 (t.args.map Ty.cells)) (.lit (.int .i64 acc)) (.lit (.int .i64 (i : Int))) = some (.ret (.lit (.int .i64 (Ty.muchL (labs acc ((t.labels.drop i).take (1000 - i))) t.args))), h) := by
      have fin := fun acc => loop1 (t.args.length + t.labels.length + 1) 0 acc (Nat.zero_le _) (by omega)
      intro m
      induction m with
      | zero => intro i acc h1 h2; omega
      | succ m ih =>
        intro i acc h1 h2
        rw [Lp24_0_succ]
        simp only [lenA31, bind_some', bin_int, lssI, boolB, List.length_map]
        have fin' := fin acc
        rw [List.drop_zero, show ((0 : Nat) : Int) = 0 from rfl] at fin'
        by_cases hi : i < t.labels.length
        · rw [show decide ((i : Int) < (t.labels.length : Int)) = true from by simpa using hi, condT]
          by_cases hk : i < 1000
          · rw [show decide ((i : Int) < 1000) = true from by simp; omega, condT]
            simp only [indexA_map _ _ _ _ hi, bind_some', part_str, lenS, bin_int, div8, addI]
            rw [incI (by omega), List.drop_eq_getElem_cons hi, show 1000 - i = (1000 - (i + 1)) + 1 from by omega, List.take_succ_cons, labs]
            exact ih (i + 1) _ hi (by omega)
          · rw [show decide ((i : Int) < 1000) = false from by simp; omega, condF, show 1000 - i = 0 from by omega, List.take_zero, labs]
            exact fin'
        · rw [show decide ((i : Int) < (t.labels.length : Int)) = false from by simpa using hi, condF, List.drop_of_length_le (by omega), List.take_nil, labs]
          exact fin'
    refine evw_run primsC (t.args.length + t.labels.length + 1) rfl rfl rfl ?_
    rw [nf24]
    simp only [aggS, bind_some', Ty.cells_len, Ty.c0, Ty.c1, Ty.c2, Ty.c3, Ty.c4, lenS, bin_int, div8, addI, lenA31, List.length_map, show Nat.beq 5 5 = true from rfl]
    rw [condT]
    have := loop0 (t.args.length + t.labels.length + 1) 0 (add64 (add64 1 (quo8 t.name)) t.labels.length) (Nat.zero_le _) (by omega)
    rw [List.drop_zero, Nat.sub_zero, show ((0 : Nat) : Int) = 0 from rfl, ← Ty.much_eq] at this
    exact this
  termination_by t => SizeOf.sizeOf t
  decreasing_by exact Ty.size_arg hi

/- seals -/
structure Seal where
  rep : Ty
  bound : Ty
  df : ByteArray
  nd : Int
def Seal.cells (s : Seal) : List AV := s.rep.cells ++ (s.bound.cells ++ [.lit (.string s.df), .lit (.int .i64 s.nd)])
structure Seal.Ok (s : Seal) : Prop where
  rep : s.rep.Ok
  bound : s.bound.Ok
  df : s.df.size ≤ maxLen
@[simp] theorem Seal.len (s : Seal) : s.cells.length = 12 := by simp [Seal.cells]
theorem Seal.p0 (s : Seal) : partA true 5 0 (s.cells.drop 0) = some (.agg s.rep.cells) := by
  unfold partA
  rw [List.drop_zero, Seal.len, show Nat.ble (0 + 5) 12 = true from rfl, condT, condT, List.drop_zero, Seal.cells, List.take_left' (Ty.cells_len _)]
theorem Seal.p5 (s : Seal) : partA true 5 0 (s.cells.drop 5) = some (.agg s.bound.cells) := by
  unfold partA
  rw [List.length_drop, Seal.len, show Nat.ble (0 + 5) (12 - 5) = true from rfl, condT, condT, List.drop_zero, Seal.cells, List.drop_left' (Ty.cells_len _), List.take_left' (Ty.cells_len _)]
theorem Seal.d10 (s : Seal) : s.cells.drop 10 = [.lit (.string s.df), .lit (.int .i64 s.nd)] := by
  rw [show (10 : Nat) = 5 + 5 from rfl, ← List.drop_drop, Seal.cells, List.drop_left' (Ty.cells_len _), List.drop_left' (Ty.cells_len _)]
theorem Seal.p10 (s : Seal) : partA false 1 0 ((s.cells.drop 10).drop 0) = some (.lit (.string s.df)) := by
  rw [Seal.d10]; rfl
theorem get_rep (s : Seal) (i : Nat) (h : i < 5) : s.cells.getD i .dead = s.rep.cells.getD i .dead := by
  rw [Seal.cells, List.getD_eq_getElem?_getD, List.getElem?_append_left (by rw [Ty.cells_len]; exact h), ← List.getD_eq_getElem?_getD]
theorem get_bound (s : Seal) (i : Nat) (h : i < 5) : s.cells.getD (5 + i) .dead = s.bound.cells.getD i .dead := by
  rw [Seal.cells, List.getD_eq_getElem?_getD, List.getElem?_append_right (by rw [Ty.cells_len]; omega), Ty.cells_len, Nat.add_sub_cancel_left, List.getElem?_append_left (by rw [Ty.cells_len]; exact h), ← List.getD_eq_getElem?_getD]
theorem Seal.reRep (s : Seal) : [s.cells.getD 0 .dead, s.cells.getD 1 .dead, s.cells.getD 2 .dead, s.cells.getD 3 .dead, s.cells.getD 4 .dead] = s.rep.cells := by
  rw [get_rep s 0 (by decide), get_rep s 1 (by decide), get_rep s 2 (by decide), get_rep s 3 (by decide), get_rep s 4 (by decide), Ty.refold]
theorem Seal.reBound (s : Seal) : [s.cells.getD 5 .dead, s.cells.getD 6 .dead, s.cells.getD 7 .dead, s.cells.getD 8 .dead, s.cells.getD 9 .dead] = s.bound.cells := by
  rw [get_bound s 0 (by decide), get_bound s 1 (by decide), get_bound s 2 (by decide), get_bound s 3 (by decide), get_bound s 4 (by decide), Ty.refold]
theorem Seal.g10 (s : Seal) : s.cells.getD 10 .dead = .lit (.string s.df) := by
  have := congrArg (fun l => l.getD 0 AV.dead) s.d10
  simpa [List.getD_eq_getElem?_getD] using this
theorem Seal.g11 (s : Seal) : s.cells.getD 11 .dead = .lit (.int .i64 s.nd) := by
  have := congrArg (fun l => l.getD 1 AV.dead) s.d10
  simpa [List.getD_eq_getElem?_getD] using this
theorem Seal.re (s : Seal) : [s.cells.getD 0 .dead, s.cells.getD 1 .dead, s.cells.getD 2 .dead, s.cells.getD 3 .dead, s.cells.getD 4 .dead, s.cells.getD 5 .dead, s.cells.getD 6 .dead, s.cells.getD 7 .dead, s.cells.getD 8 .dead, s.cells.getD 9 .dead, s.cells.getD 10 .dead, s.cells.getD 11 .dead] = s.cells := by
  have h1 := s.reRep; have h2 := s.reBound
  have : ∀ a b c d e f g h i j k l : AV, [a, b, c, d, e, f, g, h, i, j, k, l] = [a, b, c, d, e] ++ ([f, g, h, i, j] ++ [k, l]) := fun _ _ _ _ _ _ _ _ _ _ _ _ => rfl
  rw [this, h1, h2, Seal.g10, Seal.g11, Seal.cells]

theorem lenA22 (es : List (List AV)) : lenA E 22 (.sl 12 es) = some (es.length : Int) := (Eq.refl _).trans (by kernel_rfl)

/-- how much the largest has -/
def max64 (x : Int) (l : List Int) : Int := l.foldl (fun x y => if y > x then y else x) x
def few15L (n : Int) : List Seal → Int
  | [] => n
  | s :: r => few15L (max64 n [s.rep.much, s.bound.much, quo8 s.df]) r
def few15 (l : List Seal) : Int := bif decide ((l.length : Int) > 12) then 5000 else few15L 0 (l.take 20)

theorem maxs_i64 : ∀ (x : Int) (l : List Int), maxs (.lit (.int .i64 x)) (l.map fun y => .lit (.int .i64 y)) = some (.lit (.int .i64 (max64 x l)))
  | x, [] => rfl
  | x, y :: l => by
    rw [List.map_cons, maxs, maxs_i64 _ l]; rfl

theorem few15_spec (l : List Seal) (hl : l.length ≤ maxLen) (ok : ∀ s ∈ l, s.Ok) (h : Heap) : evw E 15 [.sl 12 (l.map Seal.cells)] h = some (.ret (.lit (.int .i64 (few15 l))), h) := by
  have hl : l.length ≤ 9223372036854775807 := hl
  have loop : ∀ (m i : Nat) (acc : Int), i ≤ l.length → l.length < m + i → Lp15_0 (evw E) (l.length + 1) h m h (.sl 12 (l.map Seal.cells)) (.lit (.int .i64 acc)) (.lit (.int .i64 (i : Int))) = some (.ret (.lit (.int .i64 (bif decide ((l.length : Int) > 12) then 5000 else few15L acc ((l.drop i).take (20 - i))))), h) := by
    intro m
    induction m with
    | zero => intro i acc h1 h2; omega
    | succ m ih =>
      intro i acc h1 h2
      rw [Lp15_0_succ]
      simp only [lenA22, bind_some', bin_int, lssI, boolB, List.length_map]
      by_cases hi : i < l.length
      · rw [show decide ((i : Int) < (l.length : Int)) = true from by simpa using hi, condT]
        by_cases hk : i < 20
        · rw [show decide ((i : Int) < 20) = true from by simp; omega, condT]
          have o := ok l[i] (List.getElem_mem hi)
          have hm := maxs_i64 acc [l[i].rep.much, l[i].bound.much, quo8 l[i].df]
          simp only [indexA_map _ _ _ _ hi, bind_some', Seal.len, show Nat.ble 0 12 = true from rfl, show Nat.ble 5 12 = true from rfl, show Nat.ble 10 12 = true from rfl, Seal.p0, Seal.p5, much_spec _ _ o.rep, much_spec _ _ o.bound, onOut_ret]
          rw [condT, condT, condT]
          rw [show Nat.ble 0 (l[i].cells.drop 10).length = true from by simp, condT, Seal.p10]
          simp only [bind_some', lenS, bin_int, div8, addI]
          rw [show maxs (.lit (.int .i64 acc)) [.lit (.int .i64 l[i].rep.much), .lit (.int .i64 l[i].bound.much), .lit (.int .i64 (quo8 l[i].df))] = _ from hm]
          rw [bind_some', incI (by omega), List.drop_eq_getElem_cons hi, show 20 - i = (20 - (i + 1)) + 1 from by omega, List.take_succ_cons, few15L]
          exact ih (i + 1) _ hi (by omega)
        · rw [show decide ((i : Int) < 20) = false from by simp; omega, condF, show 20 - i = 0 from by omega, List.take_zero, few15L, gtrI, bind_some', boolB, bind_some']
          cases decide ((l.length : Int) > 12) <;> rfl
      · rw [show decide ((i : Int) < (l.length : Int)) = false from by simpa using hi, condF, List.drop_of_length_le (by omega), List.take_nil, few15L, gtrI, bind_some', boolB, bind_some']
        cases decide ((l.length : Int) > 12) <;> rfl
  refine evw_run primsC (l.length + 1) rfl rfl rfl ?_
  rw [nf15]
  have := loop (l.length + 1) 0 0 (Nat.zero_le _) (by omega)
  rw [List.drop_zero, Nat.sub_zero, show ((0 : Nat) : Int) = 0 from rfl] at this
  exact this
end Go.Sh.T

namespace Go.Sh.T
open Go Go.Sh
set_option linter.unusedSimpArgs false
set_option linter.unusedVariables false

def zeroTy : Ty := ⟨0, 0, ByteArray.empty, [], []⟩
def zeroSeal : Seal := ⟨zeroTy, zeroTy, ByteArray.empty, 0⟩
theorem zeroTy_cells : zeroTy.cells = [.lit (.int .i64 0), .lit (.int .i64 0), .lit (.string ByteArray.empty), .sl 1 [], .sl 5 []] := by rw [Ty.cells_eq]; rfl
theorem zeroSeal_cells : zeroSeal.cells = [.lit (.int .i64 0), .lit (.int .i64 0), .lit (.string ByteArray.empty), .sl 1 [], .sl 5 [], .lit (.int .i64 0), .lit (.int .i64 0), .lit (.string ByteArray.empty), .sl 1 [], .sl 5 [], .lit (.string ByteArray.empty), .lit (.int .i64 0)] := by
  unfold Seal.cells
  rw [show zeroSeal.rep = zeroTy from rfl, show zeroSeal.bound = zeroTy from rfl, zeroTy_cells]; rfl

def findT (l : List Seal) (n : Int) : Seal × Bool := if h : 0 ≤ n ∧ n.toNat < l.length then (l[n.toNat], true) else (zeroSeal, false)

theorem findT_in {l : List Seal} {i : Nat} (h : i < l.length) : findT l (i : Int) = (l[i], true) := by
  unfold findT
  rw [dif_pos ⟨by omega, by simpa using h⟩]
  simp

theorem find_spec (l : List Seal) (n : Int) (h : Heap) : evw E 21 [.sl 12 (l.map Seal.cells), .lit (.int .i64 n)] h = some (.ret (.tup [.agg (findT l n).1.cells, .lit (.bool (findT l n).2)]), h) := by
  refine evw_run primsC 0 rfl rfl rfl ?_
  rw [nf21, bin_int, lssI, bind_some', boolB, bind_some']
  by_cases h0 : n < 0
  · rw [show decide (n < 0) = true from by simpa using h0, condT]
    have : findT l n = (zeroSeal, false) := by unfold findT; rw [dif_neg (by omega)]
    rw [this, zeroSeal_cells]
  · rw [show decide (n < 0) = false from by simpa using h0, condF, lenA22, bind_some', bin_int, geqI, bind_some', boolB, bind_some', List.length_map]
    by_cases h1 : n ≥ l.length
    · rw [show decide (n ≥ (l.length : Int)) = true from by simpa using h1, condT]
      have : findT l n = (zeroSeal, false) := by unfold findT; rw [dif_neg (by omega)]
      rw [this, zeroSeal_cells]
    · rw [show decide (n ≥ (l.length : Int)) = false from by simpa using h1, condF]
      obtain ⟨i, rfl⟩ : ∃ i : Nat, n = (i : Int) := ⟨n.toNat, by omega⟩
      have hi : i < l.length := by omega
      rw [indexA_map _ _ _ _ hi, bind_some', partA_full (Seal.len _), bind_some', aggS, bind_some', Seal.len, show Nat.beq 12 12 = true from rfl, condT, findT_in hi, Seal.re]

def Seal.right (s : Seal) (i : Int) : Bool := s.rep.right && (!s.rep.has 6 && (s.rep.ahead i && (s.bound.right && (!s.bound.has 6 && s.bound.ahead 0))))
def rightSL : Nat → List Seal → Bool
  | _, [] => true
  | i, s :: r => s.right i && rightSL (i + 1) r
def right28 (l : List Seal) : Bool := rightSL 0 l && decide ((l.length : Int) ≤ 1073741824)

theorem right28_spec (l : List Seal) (hl : l.length ≤ maxLen) (ok : ∀ s ∈ l, s.Ok) (h : Heap) : evw E 18 [.sl 12 (l.map Seal.cells)] h = some (.ret (.lit (.bool (right28 l))), h) := by
  have hl : l.length ≤ 9223372036854775807 := hl
  have loop : ∀ (m i : Nat), i ≤ l.length → l.length < m + i → Lp18_0 (evw E) (l.length + 1) h m h (.sl 12 (l.map Seal.cells)) (.lit (.int .i64 (i : Int))) = some (.ret (.lit (.bool (rightSL i (l.drop i) && decide ((l.length : Int) ≤ 1073741824)))), h) := by
    intro m
    induction m with
    | zero => intro i h1 h2; omega
    | succ m ih =>
      intro i h1 h2
      rw [Lp18_0_succ, lenA22, bind_some', bin_int, lssI, bind_some', boolB, bind_some', List.length_map]
      by_cases hi : i < l.length
      · have o := ok l[i] (List.getElem_mem hi)
        have hn := ih (i + 1) hi (by omega)
        rw [ltT hi, condT, indexA_map _ _ _ _ hi, bind_some', partA_full (Seal.len _), bind_some', aggS, bind_some', Seal.len, show Nat.beq 12 12 = true from rfl, condT, Seal.reRep, Seal.reBound, List.drop_eq_getElem_cons hi, rightSL, Seal.right]
        simp only [right_spec _ _ o.rep, right_spec _ _ o.bound, closed_spec _ _ o.rep, closed_spec _ _ o.bound, ahead_spec _ _ _ o.rep, ahead_spec _ _ _ o.bound, onOut_ret, notB, bind_some', boolB, bin_int, addI, incI (show i < 9223372036854775807 by omega), hn]
        cases l[i].rep.right <;> cases l[i].rep.has 6 <;> cases l[i].rep.ahead i <;> cases l[i].bound.right <;> cases l[i].bound.has 6 <;> cases l[i].bound.ahead 0 <;> rfl
      · rw [ltF hi, condF, bind_some', bin_int, leqI, bind_some', List.drop_of_length_le (by omega), rightSL, Bool.true_and]
  refine evw_run primsC (l.length + 1) rfl rfl rfl ?_
  rw [nf18]
  have := loop (l.length + 1) 0 (Nat.zero_le _) (by omega)
  rw [List.drop_zero, show ((0 : Nat) : Int) = 0 from rfl] at this
  exact this

/- what is full -/
mutual
def overT (rec : Nat → Ty → Int → Ty × Int) (l : List Seal) (b : Nat) : Ty → Int → Ty × Int
  | ⟨k, n, s, ls, xs⟩, left => bif k == 9 then (bif (findT l n).2 && decide (n < (b : Int)) then rec n.toNat (findT l n).1.rep left else (zeroTy, -1))
    else let p := overTL rec l b xs (left - 1) []; (⟨k, n, s, ls, p.1⟩, p.2)
def overTL (rec : Nat → Ty → Int → Ty × Int) (l : List Seal) (b : Nat) : List Ty → Int → List Ty → List Ty × Int
  | [], left, acc => (acc, left)
  | t :: r, left, acc => bif decide (left < 0) then (acc, left) else let p := overT rec l b t left; overTL rec l b r p.2 (acc ++ [p.1])
end
def over (l : List Seal) : Nat → Nat → Ty → Int → Ty × Int
  | 0, _, _, _ => (zeroTy, -1)
  | f + 1, b, t, left => overT (over l f) l b t left
mutual
theorem overT_left {rec : Nat → Ty → Int → Ty × Int} {l : List Seal} (hr : ∀ b t left, 0 ≤ left → -1 ≤ (rec b t left).2 ∧ (rec b t left).2 < left) (b : Nat) : ∀ (t : Ty) (left : Int), 0 ≤ left → -1 ≤ (overT rec l b t left).2 ∧ (overT rec l b t left).2 < left
  | ⟨k, n, s, ls, xs⟩, left, h => by
    rw [overT]
    cases k == 9 with
    | true =>
      rw [cond_true]
      cases (findT l n).2 && decide (n < (b : Int)) with
      | true => exact hr _ _ _ h
      | false => exact ⟨by show (-1 : Int) ≤ -1; omega, by show (-1 : Int) < left; omega⟩
    | false =>
      have := overTL_left (l := l) hr b xs (left - 1) [] (by omega)
      exact ⟨this.1, by have := this.2; show (overTL rec l b xs (left - 1) []).2 < left; omega⟩
theorem overTL_left {rec : Nat → Ty → Int → Ty × Int} {l : List Seal} (hr : ∀ b t left, 0 ≤ left → -1 ≤ (rec b t left).2 ∧ (rec b t left).2 < left) (b : Nat) : ∀ (r : List Ty) (left : Int) (acc : List Ty), -1 ≤ left → -1 ≤ (overTL rec l b r left acc).2 ∧ (overTL rec l b r left acc).2 ≤ left
  | [], left, acc, h => by rw [overTL]; exact ⟨h, Int.le_refl _⟩
  | t :: r, left, acc, h => by
    rw [overTL]
    by_cases h0 : left < 0
    · rw [show decide (left < 0) = true from by simpa using h0]; exact ⟨h, Int.le_refl _⟩
    · rw [show decide (left < 0) = false from by simpa using h0]
      obtain ⟨a1, a2⟩ := overT_left (l := l) hr b t left (by omega)
      obtain ⟨b1, b2⟩ := overTL_left (l := l) hr b r (overT rec l b t left).2 (acc ++ [(overT rec l b t left).1]) a1
      exact ⟨b1, by show (overTL rec l b r (overT rec l b t left).2 (acc ++ [(overT rec l b t left).1])).2 ≤ left; omega⟩
end
def heap3 (h0 : Heap) (l : List Seal) (left : Int) : Heap := h0 ++ [[.v (.sl 12 (l.map Seal.cells))], [.v (.lit (.int .i64 left))], [.v (.fn 82 [] [.hp h0.length 0, .hp (h0.length + 1) 0, .hp (h0.length + 2) 0])]]
theorem applyS (F : Nat → List AV → Heap → R) (f : Nat) (caps args : List AV) (h : Heap) : applyV F (.fn f [] caps) args h = F f ([] ++ args ++ caps) h := (Eq.refl _).trans rfl
theorem findT_ok {l : List Seal} (ok : ∀ s ∈ l, s.Ok) (n : Int) (h : (findT l n).2 = true) : (findT l n).1.Ok := by
  unfold findT at h ⊢
  split at h
  · rename_i hn; rw [dif_pos hn]; exact ok _ (List.getElem_mem _)
  · cases h
def fullT (l : List Seal) (t : Ty) : Ty × Bool := let p := over l (l.length + 1) l.length t 300; bif decide (p.2 < 0) then (zeroTy, false) else (p.1, true)

end Go.Sh.T

namespace Go.Sh.T
open Go Go.Sh
set_option linter.unusedSimpArgs false
set_option linter.unusedVariables false
set_option maxRecDepth 100000

theorem any_spec (P : Ty → Bool) (fv : AV) (H : Heap) (l : List Ty) (hl : l.length ≤ maxLen) (hc : ∀ a ∈ l, applyV (evw E) fv [.agg a.cells] H = some (.ret (.lit (.bool (P a))), H)) : evw E 135 [.sl 5 (l.map Ty.cells), fv] H = some (.ret (.lit (.bool (l.any P))), H) := by
  have hl : l.length ≤ 9223372036854775807 := hl
  have loop : ∀ (m i : Nat), i ≤ l.length → l.length < m + i → ∃ r : Int, Lp166_0 (evw E) (l.length + 1) H m H (.sl 5 (l.map Ty.cells)) fv (.lit (.int .i64 (l.length : Int))) (.lit (.int .i64 (i : Int))) = some (.ret (.lit (.int .i64 r)), H) ∧ decide (r ≥ 0) = (l.drop i).any P := by
    intro m
    induction m with
    | zero => intro i h1 h2; omega
    | succ m ih =>
      intro i h1 h2
      rw [Lp166_0_succ, bin_int, lssI, bind_some', boolB, bind_some']
      by_cases hi : i < l.length
      · rw [ltT hi, condT, indexA_map _ _ _ _ hi, bind_some', partA_full (Ty.cells_len _), bind_some', hc _ (List.getElem_mem hi), onOut_ret, boolB, bind_some', List.drop_eq_getElem_cons hi, List.any_cons]
        cases e : P l[i] with
        | true => exact ⟨i, by rw [condT], by rw [Bool.true_or]; simp⟩
        | false =>
          rw [condF, bin_int, addI, bind_some', incI (by omega), Bool.false_or]
          exact ih (i + 1) hi (by omega)
      · exact ⟨-1, by rw [ltF hi, condF], by rw [List.drop_of_length_le (by omega)]; rfl⟩
  obtain ⟨r, h1, h2⟩ := loop (l.length + 1) 0 (Nat.zero_le _) (by omega)
  rw [List.drop_zero] at h2
  have h166 : evw E 166 [.sl 5 (l.map Ty.cells), fv] H = some (.ret (.lit (.int .i64 r)), H) := by
    refine evw_run primsC (l.length + 1) rfl rfl rfl ?_
    rw [nf166, lenA29, bind_some', List.length_map]
    exact h1
  refine evw_run primsC 0 rfl rfl rfl ?_
  rw [nf135, h166, onOut_ret, bin_int, geqI, bind_some', h2]

mutual
def Ty.under (b : Int) : Ty → Bool
  | ⟨k, n, _, _, xs⟩ => bif k == 9 then decide (n < b) else !Ty.overA b xs
def Ty.overA (b : Int) : List Ty → Bool
  | [] => false
  | t :: r => !t.under b || Ty.overA b r
end
end Go.Sh.T

namespace Go.Sh.T
open Go Go.Sh
set_option linter.unusedSimpArgs false
set_option linter.unusedVariables false
set_option maxRecDepth 100000

theorem evk {f : Nat} {args : List AV} {h : Heap} {r : Out × Heap} (k : Nat) (e : ev E k f args h = some r) : evw E f args h = some r := (evw_iff primsC).2 ⟨k, e⟩
def tyI : Ty := ⟨1, 0, ByteArray.empty, [], []⟩
def tyTop : Ty := ⟨4, 0, ByteArray.empty, [], []⟩
def tySl (n : Int) : Ty := ⟨9, n, ByteArray.empty, [], []⟩
def tyFn (a b : Ty) : Ty := ⟨7, 0, ByteArray.empty, [], [a, b]⟩
def aw1 : List Seal := [⟨tyI, tyTop, ⟨#[102]⟩, 2⟩]
def aw2 : List Seal := [⟨tyI, tyTop, ⟨#[102]⟩, 2⟩, ⟨tySl 0, tyI, ByteArray.empty, 0⟩]

end Go.Sh.T

namespace Go.Sh.T
open Go Go.Sh
set_option linter.unusedSimpArgs false
set_option linter.unusedVariables false

/- sizes -/
mutual
def Ty.cnt : Ty → Nat
  | ⟨_, _, _, _, xs⟩ => 1 + Ty.cntL xs
def Ty.cntL : List Ty → Nat
  | [] => 0
  | t :: r => t.cnt + Ty.cntL r
end
theorem Ty.cnt_eq (t : Ty) : t.cnt = 1 + Ty.cntL t.args := by cases t; rw [Ty.cnt]
def Ty.vol (t : Ty) : Nat := volC t.cells
def Ty.volL : List Ty → Nat
  | [] => 0
  | t :: r => t.vol + Ty.volL r
def strVol : List ByteArray → Nat
  | [] => 0
  | s :: r => s.size + 1 + strVol r
theorem volE_str : ∀ l : List ByteArray, volE (l.map strC) = strVol l
  | [] => by rw [List.map_nil, volE, strVol]
  | s :: r => by rw [List.map_cons, volE, strVol, volE_str r]; simp only [strC, volC, Sh.vol]
theorem volE_ty : ∀ l : List Ty, volE (l.map Ty.cells) = Ty.volL l
  | [] => by rw [List.map_nil, volE, Ty.volL]
  | t :: r => by rw [List.map_cons, volE, Ty.volL, volE_ty r, Ty.vol]
theorem Ty.vol_eq (t : Ty) : t.vol = 5 + t.name.size + strVol t.labels + Ty.volL t.args := by
  rw [Ty.vol, Ty.cells_eq]
  simp only [volC, Sh.vol, volE_str, volE_ty]
  omega
theorem strVol_len : ∀ l : List ByteArray, l.length ≤ strVol l
  | [] => Nat.le_refl _
  | s :: r => by have := strVol_len r; rw [strVol, List.length_cons]; omega
theorem strVol_take : ∀ (n : Nat) (l : List ByteArray), strVol (l.take n) ≤ strVol l
  | 0, l => by rw [List.take_zero, strVol]; exact Nat.zero_le _
  | n + 1, [] => Nat.le_refl _
  | n + 1, s :: r => by have := strVol_take n r; rw [List.take_succ_cons, strVol, strVol]; omega

theorem quo8_of {s : ByteArray} (h : s.size ≤ 9000000) : 0 ≤ quo8 s ∧ quo8 s ≤ s.size := by
  unfold quo8
  have h1 : ((s.size : Int).tdiv 8) = (s.size : Int) / 8 := by
    rw [Int.tdiv_eq_ediv_of_nonneg (by omega)]
  rw [h1, IntWalk.i64_in _ (by omega)]
  omega
theorem add64_of {x y : Int} (h0 : -9000000000000000000 ≤ x + y) (h : x + y ≤ 9000000000000000000) : add64 x y = x + y := by
  unfold add64; rw [IntWalk.i64_in _ (by omega)]

theorem labs_of : ∀ (l : List ByteArray) (n : Int), 0 ≤ n → strVol l + n ≤ 8000000 → n ≤ labs n l ∧ labs n l ≤ n + strVol l
  | [], n, h0, h => by rw [labs, strVol]; omega
  | s :: r, n, h0, h => by
    rw [strVol] at h ⊢
    obtain ⟨q0, q1⟩ := quo8_of (s := s) (by omega)
    rw [labs, add64_of (by omega) (by omega)]
    have := labs_of r (n + quo8 s) (by omega) (by omega)
    omega

mutual
theorem much_of : ∀ t : Ty, t.vol ≤ 1048576 → 1 ≤ t.much ∧ t.much ≤ 2 * (t.vol : Int) ∧ (t.much < 3000 → (t.cnt : Int) ≤ t.much)
  | ⟨k, n, s, ls, xs⟩, h => by
    rw [Ty.vol_eq] at h ⊢
    rw [Ty.much, Ty.cnt]
    simp only at h ⊢
    have hl := strVol_len ls
    have ht := strVol_take 1000 ls
    obtain ⟨q0, q1⟩ := quo8_of (s := s) (by omega)
    rw [add64_of (x := 1) (by omega) (by omega), add64_of (by omega) (by omega)]
    have h1 := labs_of (ls.take 1000) (1 + quo8 s + ls.length) (by omega) (by omega)
    have h2 := muchL_of xs (labs (1 + quo8 s + ls.length) (ls.take 1000)) (by omega) (by omega) (by omega)
    refine ⟨by omega, by omega, fun h3 => ?_⟩
    have := h2.2.2 h3
    omega
theorem muchL_of : ∀ (l : List Ty) (n : Int), 1 ≤ n → n + 2 * (Ty.volL l : Int) ≤ 8000000 → Ty.volL l ≤ 1048576 → n ≤ Ty.muchL n l ∧ Ty.muchL n l ≤ n + 2 * (Ty.volL l : Int) ∧ (Ty.muchL n l < 3000 → n + Ty.cntL l ≤ Ty.muchL n l)
  | [], n, h0, h, _ => by rw [Ty.muchL, Ty.volL, Ty.cntL]; omega
  | t :: r, n, h0, h, hv => by
    rw [Ty.volL] at h hv ⊢
    rw [Ty.muchL, Ty.cntL]
    by_cases h3 : n < 3000
    · rw [show decide (n < 3000) = true from by simpa using h3, cond_true]
      obtain ⟨m1, m2, m3⟩ := much_of t (by omega)
      rw [add64_of (by omega) (by omega)]
      obtain ⟨k1, k2, k3⟩ := muchL_of r (n + t.much) (by omega) (by omega) (by omega)
      refine ⟨by omega, by omega, fun h4 => ?_⟩
      have e1 := k3 h4
      have e2 := m3 (by omega)
      omega
    · rw [show decide (n < 3000) = false from by simpa using h3, cond_false]
      refine ⟨by omega, by omega, fun h4 => by omega⟩
end

mutual
theorem nodes_of : ∀ t : Ty, t.cnt ≤ 2000000000 → t.nodes = (t.cnt : Int)
  | ⟨k, n, s, ls, xs⟩, h => by
    rw [Ty.cnt] at h ⊢
    rw [Ty.nodes, nodesL_of xs 1 (by omega) (by omega)]
    omega
theorem nodesL_of : ∀ (l : List Ty) (n : Int), 0 ≤ n → n + Ty.cntL l ≤ 2000000000 → Ty.nodesL n l = n + Ty.cntL l
  | [], n, _, _ => by rw [Ty.nodesL, Ty.cntL]; omega
  | t :: r, n, h0, h => by
    rw [Ty.cntL] at h ⊢
    rw [Ty.nodesL]
    rw [nodes_of t (by omega), IntWalk.i64_in _ (by omega), nodesL_of r _ (by omega) (by omega)]
    omega
end
end Go.Sh.T

namespace Go.Sh.T
open Go Go.Sh
set_option linter.unusedSimpArgs false
set_option linter.unusedVariables false

/- the same -/
theorem strEq_refl (s : ByteArray) : strEq s s = true := by unfold strEq; simp
theorem sameS_refl : ∀ l : List ByteArray, sameS l l = true
  | [] => rfl
  | s :: r => by rw [sameS, strEq_refl, sameS_refl r]; rfl
mutual
theorem Ty.same_refl : ∀ t : Ty, t.same t = true
  | ⟨k, n, s, ls, xs⟩ => by
    rw [Ty.same, Ty.sameL_refl xs, sameS_refl, strEq_refl]
    simp
theorem Ty.sameL_refl : ∀ l : List Ty, Ty.sameL l l = true
  | [] => by rw [Ty.sameL]
  | t :: r => by rw [Ty.sameL]; simp [Ty.same_refl t, Ty.sameL_refl r]
end

/- right seals -/
/-- What has come out full is right, has no seals, and so many nodes. -/
def Good (u : Ty) (c : Int) : Prop := u.right = true ∧ u.has 9 = false ∧ (u.cnt : Int) = c
def GoodL (l : List Ty) (c : Int) : Prop := Ty.rightL l = true ∧ Ty.hasL 9 l = false ∧ (Ty.cntL l : Int) = c

theorem rightL_append : ∀ (l m : List Ty), Ty.rightL (l ++ m) = (Ty.rightL l && Ty.rightL m)
  | [], m => by rw [List.nil_append, Ty.rightL, Bool.true_and]
  | t :: r, m => by rw [List.cons_append, Ty.rightL, Ty.rightL, rightL_append r m, Bool.and_assoc]
theorem hasL_append (k : Int) : ∀ (l m : List Ty), Ty.hasL k (l ++ m) = (Ty.hasL k l || Ty.hasL k m)
  | [], m => by rw [List.nil_append, Ty.hasL, Bool.false_or]
  | t :: r, m => by rw [List.cons_append, Ty.hasL, Ty.hasL, hasL_append k r m, Bool.or_assoc]
theorem cntL_append : ∀ (l m : List Ty), Ty.cntL (l ++ m) = Ty.cntL l + Ty.cntL m
  | [], m => by rw [List.nil_append, Ty.cntL, Nat.zero_add]
  | t :: r, m => by rw [List.cons_append, Ty.cntL, Ty.cntL, cntL_append r m, Nat.add_assoc]

mutual
theorem overT_good {rec : Nat → Ty → Int → Ty × Int} {l : List Seal} (hl : ∀ s ∈ l, s.rep.right = true) (hr0 : ∀ b t left, 0 ≤ left → -1 ≤ (rec b t left).2 ∧ (rec b t left).2 < left) (hr : ∀ b t left, t.right = true → 0 ≤ left → 0 ≤ (rec b t left).2 → Good (rec b t left).1 (left - (rec b t left).2)) (b : Nat) :
    ∀ (t : Ty) (left : Int), t.right = true → 0 ≤ left → 0 ≤ (overT rec l b t left).2 → Good (overT rec l b t left).1 (left - (overT rec l b t left).2)
  | ⟨k, n, s, ls, xs⟩, left, ht, h0, h => by
    rw [overT] at h ⊢
    cases hk : k == 9 with
    | true =>
      rw [hk] at h
      rw [cond_true] at h ⊢
      cases hf : (findT l n).2 && decide (n < (b : Int)) with
      | false => rw [hf] at h; have h : (0 : Int) ≤ -1 := h; omega
      | true =>
        rw [hf] at h
        rw [cond_true] at h ⊢
        rw [Bool.and_eq_true] at hf
        refine hr _ _ _ ?_ h0 h
        have := hf.1
        unfold findT at this ⊢
        split at this
        · rename_i hn; rw [dif_pos hn]; exact hl _ (List.getElem_mem _)
        · cases this
    | false =>
      rw [hk] at h
      rw [cond_false] at h ⊢
      rw [Ty.right, Bool.and_eq_true] at ht
      have h : 0 ≤ (overTL rec l b xs (left - 1) []).2 := h
      obtain ⟨g, hlen⟩ := overTL_good hl hr0 hr b xs (left - 1) [] 0 ht.1 (by omega) ⟨by rw [Ty.rightL], by rw [Ty.hasL], by rw [Ty.cntL]; rfl⟩ h
      obtain ⟨g1, g2, g3⟩ := g
      refine ⟨?_, ?_, ?_⟩
      · show Ty.right ⟨k, n, s, ls, _⟩ = true
        rw [Ty.right, g1, hlen, Bool.true_and]; simpa using ht.2
      · show Ty.has 9 ⟨k, n, s, ls, _⟩ = false
        rw [Ty.has, hk, g2]; rfl
      · show ((Ty.cnt ⟨k, n, s, ls, _⟩ : Nat) : Int) = left - (overTL rec l b xs (left - 1) []).2
        rw [Ty.cnt]
        omega
theorem overTL_good {rec : Nat → Ty → Int → Ty × Int} {l : List Seal} (hl : ∀ s ∈ l, s.rep.right = true) (hr0 : ∀ b t left, 0 ≤ left → -1 ≤ (rec b t left).2 ∧ (rec b t left).2 < left) (hr : ∀ b t left, t.right = true → 0 ≤ left → 0 ≤ (rec b t left).2 → Good (rec b t left).1 (left - (rec b t left).2)) (b : Nat) :
    ∀ (r : List Ty) (left : Int) (acc : List Ty) (c : Int), Ty.rightL r = true → -1 ≤ left → GoodL acc c → 0 ≤ (overTL rec l b r left acc).2 → GoodL (overTL rec l b r left acc).1 (c + left - (overTL rec l b r left acc).2) ∧ (overTL rec l b r left acc).1.length = acc.length + r.length
  | [], left, acc, c, _, h0, g, h => by
    rw [overTL] at h ⊢
    exact ⟨⟨g.1, g.2.1, by rw [g.2.2]; show c = c + left - left; omega⟩, by simp⟩
  | t :: r, left, acc, c, ht, h0, g, h => by
    rw [overTL] at h ⊢
    rw [Ty.rightL, Bool.and_eq_true] at ht
    by_cases hz : left < 0
    · rw [show decide (left < 0) = true from by simpa using hz] at h
      have h : 0 ≤ left := h
      omega
    · rw [show decide (left < 0) = false from by simpa using hz] at h ⊢
      rw [cond_false] at h ⊢
      obtain ⟨a1, a2⟩ := overT_left (l := l) hr0 b t left (by omega)
      have h : 0 ≤ (overTL rec l b r (overT rec l b t left).2 (acc ++ [(overT rec l b t left).1])).2 := h
      have hnn := (overTL_left (l := l) hr0 b r (overT rec l b t left).2 (acc ++ [(overT rec l b t left).1]) a1).2
      have gt := overT_good hl hr0 hr b t left ht.1 (by omega) (by omega)
      obtain ⟨g2, hlen⟩ := overTL_good hl hr0 hr b r (overT rec l b t left).2 (acc ++ [(overT rec l b t left).1]) (c + (left - (overT rec l b t left).2)) ht.2 a1
        ⟨by rw [rightL_append, g.1, Ty.rightL, gt.1, Ty.rightL]; rfl, by rw [hasL_append, g.2.1, Ty.hasL, gt.2.1, Ty.hasL]; rfl, by rw [cntL_append, Ty.cntL, Ty.cntL]; have := g.2.2; have := gt.2.2; omega⟩ h
      refine ⟨?_, by simp only [List.length_append, List.length_cons, List.length_nil] at hlen ⊢; show (overTL rec l b r (overT rec l b t left).2 (acc ++ [(overT rec l b t left).1])).1.length = _; omega⟩
      rw [show c + (left - (overT rec l b t left).2) + (overT rec l b t left).2 - (overTL rec l b r (overT rec l b t left).2 (acc ++ [(overT rec l b t left).1])).2 = c + left - (overTL rec l b r (overT rec l b t left).2 (acc ++ [(overT rec l b t left).1])).2 from by omega] at g2
      exact g2
end
mutual
theorem overT_id {rec : Nat → Ty → Int → Ty × Int} {l : List Seal} (b : Nat) : ∀ (t : Ty) (left : Int), t.has 9 = false → (t.cnt : Int) ≤ left → overT rec l b t left = (t, left - t.cnt)
  | ⟨k, n, s, ls, xs⟩, left, ht, h => by
    rw [Ty.has, Bool.or_eq_false_iff] at ht
    rw [Ty.cnt] at h
    rw [overT, ht.1, cond_false, overTL_id b xs (left - 1) [] ht.2 (by omega), Ty.cnt]
    simp only [List.nil_append]
    congr 1
    omega
theorem overTL_id {rec : Nat → Ty → Int → Ty × Int} {l : List Seal} (b : Nat) : ∀ (r : List Ty) (left : Int) (acc : List Ty), Ty.hasL 9 r = false → (Ty.cntL r : Int) ≤ left → overTL rec l b r left acc = (acc ++ r, left - Ty.cntL r)
  | [], left, acc, _, _ => by rw [overTL, Ty.cntL, List.append_nil]; simp
  | t :: r, left, acc, ht, h => by
    rw [Ty.hasL, Bool.or_eq_false_iff] at ht
    rw [Ty.cntL] at h
    have hc : 1 ≤ t.cnt := by rw [Ty.cnt_eq]; omega
    rw [overTL, show decide (left < 0) = false from by simp; omega, cond_false, overT_id b t left ht.1 (by omega)]
    simp only
    rw [overTL_id b r _ _ ht.2 (by omega), Ty.cntL, List.append_assoc, List.singleton_append]
    congr 1
    omega
end

theorem zeroTy_ok : zeroTy.Ok := .mk (by decide) (by decide) (by decide) (by decide) (by intro _ h; cases h) (by decide) (by intro _ h; cases h)
mutual
theorem overT_ok {rec : Nat → Ty → Int → Ty × Int} {l : List Seal} (hl : ∀ s ∈ l, s.Ok) (hr : ∀ b t left, t.Ok → (rec b t left).1.Ok) (b : Nat) : ∀ (t : Ty) (left : Int), t.Ok → (overT rec l b t left).1.Ok
  | ⟨k, n, s, ls, xs⟩, left, ht => by
    rw [overT]
    cases k == 9 with
    | true =>
      rw [cond_true]
      cases hf : (findT l n).2 && decide (n < (b : Int)) with
      | false => exact zeroTy_ok
      | true =>
        rw [Bool.and_eq_true] at hf
        exact hr _ _ _ (findT_ok hl n hf.1).rep
    | false =>
      obtain ⟨h1, h2⟩ := overTL_ok hl hr b xs (left - 1) [] (fun a ha => ht.arg ha) (by intro _ h; cases h)
      cases ht with
      | mk hk hn hs hl' hls ha has => exact .mk hk hn hs hl' hls (Nat.le_trans h2 (by simpa using ha)) h1
theorem overTL_ok {rec : Nat → Ty → Int → Ty × Int} {l : List Seal} (hl : ∀ s ∈ l, s.Ok) (hr : ∀ b t left, t.Ok → (rec b t left).1.Ok) (b : Nat) : ∀ (r : List Ty) (left : Int) (acc : List Ty), (∀ a ∈ r, a.Ok) → (∀ a ∈ acc, a.Ok) → (∀ a ∈ (overTL rec l b r left acc).1, a.Ok) ∧ (overTL rec l b r left acc).1.length ≤ acc.length + r.length
  | [], left, acc, _, h => by rw [overTL]; exact ⟨h, by simp⟩
  | t :: r, left, acc, h1, h2 => by
    rw [overTL]
    cases decide (left < 0) with
    | true => exact ⟨h2, by simp⟩
    | false =>
      obtain ⟨g1, g2⟩ := overTL_ok hl hr b r (overT rec l b t left).2 (acc ++ [(overT rec l b t left).1]) (fun a ha => h1 a (List.mem_cons_of_mem _ ha)) (fun a ha => by
        rcases List.mem_append.1 ha with e | e
        · exact h2 a e
        · rw [List.mem_singleton.1 e]; exact overT_ok hl hr b t left (h1 t List.mem_cons_self))
      refine ⟨g1, Nat.le_trans g2 ?_⟩
      simp only [List.length_append, List.length_cons, List.length_nil]; omega
end
end Go.Sh.T
