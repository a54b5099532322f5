/- GnB: part of the proof: a shadow of the machine that is proved sound, and what the functions of this seat compute. Conditions: none. -/
import Derived.Test.YtgcjkhmeideaoaaGnT
import Derived.Test.YtgcjkhmeideaoaaShC
set_option linter.unusedSimpArgs false
namespace Go.Sh.T
open Go Go.Sh

theorem lenA24 (es : List (List AV)) : lenA E 24 (.sl 5 es) = some (es.length : Int) := (Eq.refl _).trans (by kernel_rfl)


theorem nodes_spec : ∀ (t : Ty) (h : Heap), t.Ok → evw E 83 [.agg t.cells] h = some (.ret (.lit (.int .i64 t.nodes)), h)
  | t, h, ok => by
    have loop : ∀ (m i : Nat) (acc : Int), i ≤ t.args.length → t.args.length < m + i → Lp83_0 (evw E) (t.args.length + 1) h m h (.lit (.int .i64 t.k)) (.lit (.int .i64 t.n)) (.lit (.string t.name)) (.sl 1 (t.labels.map strC)) (.sl 5 (t.args.map Ty.cells)) (.lit (.int .i64 acc)) (.lit (.int .i64 (i : Int))) = some (.ret (.lit (.int .i64 (Ty.nodesL acc (t.args.drop i)))), h) := by
      intro m
      induction m with
      | zero => intro i acc h1 h2; omega
      | succ m ih =>
        intro i acc h1 h2
        have hlen := ok.len
        rw [Lp83_0_succ]
        simp only [lenA24, bind_some', bin_int, intBin, boolOf, List.length_map]
        by_cases hi : i < t.args.length
        · have hrec := nodes_spec (t.args[i]) h (ok.arg (List.getElem_mem hi))
          simp only [show decide ((i : Int) < (t.args.length : Int)) = true from by simpa using hi, cond_true, indexA_map _ _ _ _ hi, bind_some', partA_full (Ty.cells_len _), hrec, onOut_ret, bin_int, inc (i := i) (by omega)]
          simp only [intBin, bind_some']
          rw [IntWalk.i64_in ((i : Int) + 1) (by omega), nodesL_step hi]
          exact ih (i + 1) _ hi (by omega)
        · simp only [show decide ((i : Int) < (t.args.length : Int)) = false from by simpa using hi, cond_false]
          rw [List.drop_of_length_le (by omega), Ty.nodesL]
    refine evw_run primsC (t.args.length + 1) rfl rfl rfl ?_
    rw [nf83]
    simp only [aggOf, bind_some', Ty.cells_len, Ty.c0, Ty.c1, Ty.c2, Ty.c3, Ty.c4]
    have := loop (t.args.length + 1) 0 1 (Nat.zero_le _) (by omega)
    rw [List.drop_zero] at this
    have e : t.nodes = Ty.nodesL 1 t.args := by cases t; rw [Ty.nodes]
    rw [e]
    exact this
  termination_by t => SizeOf.sizeOf t
  decreasing_by exact Ty.size_arg hi
end Go.Sh.T

namespace Go.Sh.T
open Go Go.Sh

theorem ty3 : E.ty 3 = some ti3 := by kernel_rfl
theorem ty9 : E.ty 9 = some ti9 := by kernel_rfl
theorem ty24 : E.ty 24 = some ti24 := by kernel_rfl
theorem ty23 : E.ty 23 = some ti23 := by kernel_rfl
theorem ty26 : E.ty 26 = some ti26 := by kernel_rfl

theorem int_of {t : TypeId} {vs : List AV} (h : TypedC E t vs) (e : E.ty t = some ti3) : ∃ n, vs = [.lit (.int .i64 n)] ∧ (Lit.int .i64 n).wf = true := by
  cases h with
  | bool h hd b => rw [e] at h; cases h; cases hd
  | int h hd hw => rw [e] at h; cases h; cases hd; exact ⟨_, rfl, hw⟩
  | str h hd hs => rw [e] at h; cases h; cases hd
  | sl h hd hj hl hes => rw [e] at h; cases h; cases hd
  | struct h hd hf => rw [e] at h; cases h; cases hd

theorem str_of {t : TypeId} {vs : List AV} (h : TypedC E t vs) (e : E.ty t = some ti9) : ∃ s, vs = strC s ∧ s.size ≤ maxLen := by
  cases h with
  | bool h hd b => rw [e] at h; cases h; cases hd
  | int h hd hw => rw [e] at h; cases h; cases hd
  | str h hd hs => exact ⟨_, rfl, hs⟩
  | sl h hd hj hl hes => rw [e] at h; cases h; cases hd
  | struct h hd hf => rw [e] at h; cases h; cases hd

theorem strs_of : ∀ {es : List (List AV)}, TypedE E 9 es → ∃ l : List ByteArray, es = l.map strC ∧ ∀ s ∈ l, s.size ≤ maxLen
  | [], _ => ⟨[], rfl, fun _ h => by cases h⟩
  | _ :: _, .cons h hr => by
    obtain ⟨s, rfl, hs⟩ := str_of h ty9
    obtain ⟨l, rfl, hl⟩ := strs_of hr
    exact ⟨s :: l, rfl, fun x hx => by
      rcases List.mem_cons.1 hx with e | e
      · rw [e]; exact hs
      · exact hl x e⟩

theorem labels_of {vs : List AV} (h : TypedC E 23 vs) : ∃ l : List ByteArray, vs = [.sl 1 (l.map strC)] ∧ l.length ≤ maxLen ∧ ∀ s ∈ l, s.size ≤ maxLen := by
  cases h with
  | bool h hd b => rw [ty23] at h; cases h; cases hd
  | int h hd hw => rw [ty23] at h; cases h; cases hd
  | str h hd hs => rw [ty23] at h; cases h; cases hd
  | sl h hd hj hl hes =>
    rw [ty23] at h; cases h; cases hd
    rw [ty9] at hj; cases hj
    obtain ⟨l, rfl, hs⟩ := strs_of hes
    exact ⟨l, rfl, by simpa using hl, hs⟩
  | struct h hd hf => rw [ty23] at h; cases h; cases hd

theorem ty_fuel : ∀ n : Nat, (∀ vs : List AV, SizeOf.sizeOf vs < n → TypedC E 26 vs → ∃ x : Ty, vs = x.cells ∧ x.Ok) ∧ (∀ es : List (List AV), SizeOf.sizeOf es < n → TypedE E 26 es → ∃ l : List Ty, es = l.map Ty.cells ∧ ∀ x ∈ l, x.Ok)
  | 0 => ⟨fun _ h => by omega, fun _ h => by omega⟩
  | n + 1 => by
    obtain ⟨ihC, ihE⟩ := ty_fuel n
    refine ⟨fun vs hlt h => ?_, fun es hlt h => ?_⟩
    · cases h with
      | bool h hd b => rw [ty26] at h; cases h; cases hd
      | int h hd hw => rw [ty26] at h; cases h; cases hd
      | str h hd hs => rw [ty26] at h; cases h; cases hd
      | sl h hd hj hl hes => rw [ty26] at h; cases h; cases hd
      | struct h hd hf =>
        rw [ty26] at h; cases h; cases hd
        cases hf with
        | cons h1 hf =>
          cases hf with
          | cons h2 hf =>
            cases hf with
            | cons h3 hf =>
              cases hf with
              | cons h4 hf =>
                cases hf with
                | cons h5 hf =>
                  cases hf
                  obtain ⟨k, rfl, hk⟩ := int_of h1 ty3
                  obtain ⟨m, rfl, hn⟩ := int_of h2 ty3
                  obtain ⟨s, rfl, hs⟩ := str_of h3 ty9
                  obtain ⟨ls, rfl, hl, hls⟩ := labels_of h4
                  cases h5 with
                  | bool h hd b => rw [ty24] at h; cases h; cases hd
                  | int h hd hw => rw [ty24] at h; cases h; cases hd
                  | str h hd hs => rw [ty24] at h; cases h; cases hd
                  | struct h hd hf => rw [ty24] at h; cases h; cases hd
                  | sl h hd hj hl5 hes =>
                    rw [ty24] at h; cases h; cases hd
                    rw [ty26] at hj; cases hj
                    obtain ⟨xs, rfl, hx⟩ := ihE _ (by
                      simp only [strC, List.flatten_cons, List.flatten_nil, List.cons_append, List.nil_append, List.cons.sizeOf_spec, AV.sl.sizeOf_spec] at hlt
                      omega) hes
                    exact ⟨⟨k, m, s, ls, xs⟩, by rw [Ty.cells_eq]; rfl, .mk hk hn hs hl hls (by simpa using hl5) hx⟩
    · cases h with
      | nil => exact ⟨[], rfl, fun _ h => by cases h⟩
      | cons h hr =>
        simp only [List.cons.sizeOf_spec] at hlt
        obtain ⟨x, rfl, hx⟩ := ihC _ (by omega) h
        obtain ⟨l, rfl, hl⟩ := ihE _ (by omega) hr
        exact ⟨x :: l, rfl, fun y hy => by
          rcases List.mem_cons.1 hy with e | e
          · rw [e]; exact hx
          · exact hl y e⟩

theorem ty_of {vs : List AV} (h : TypedC E 26 vs) : ∃ x : Ty, vs = x.cells ∧ x.Ok := (ty_fuel _).1 vs (Nat.lt_succ_self _) h
end Go.Sh.T

namespace Go.Sh.T
open Go Go.Sh
set_option linter.unusedSimpArgs false

theorem has_spec : ∀ (t : Ty) (k : Int) (h : Heap), t.Ok → evw E 15 [.agg t.cells, .lit (.int .i64 k)] h = some (.ret (.lit (.bool (t.has k))), h)
  | t, k, h, ok => by
    have loop : ∀ (m i : Nat), i ≤ t.args.length → t.args.length < m + i → Lp15_0 (evw E) (t.args.length + 1) h m h (.lit (.int .i64 k)) (.lit (.int .i64 t.k)) (.lit (.int .i64 t.n)) (.lit (.string t.name)) (.sl 1 (t.labels.map strC)) (.sl 5 (t.args.map Ty.cells)) (.lit (.int .i64 (i : Int))) = some (.ret (.lit (.bool (Ty.hasL k (t.args.drop i)))), h) := by
      intro m
      induction m with
      | zero => intro i h1 h2; omega
      | succ m ih =>
        intro i h1 h2
        have hlen := ok.len
        rw [Lp15_0_succ]
        simp only [lenA24, bind_some', bin_int, intBin, boolOf, List.length_map]
        by_cases hi : i < t.args.length
        · have hrec := has_spec (t.args[i]) k h (ok.arg (List.getElem_mem hi))
          simp only [show decide ((i : Int) < (t.args.length : Int)) = true from by simpa using hi, cond_true, indexA_map _ _ _ _ hi, bind_some', partA_full (Ty.cells_len _), hrec, onOut_ret, bin_int, intBin, boolOf]
          rw [List.drop_eq_getElem_cons hi, Ty.hasL, IntWalk.i64_in ((i : Int) + 1) (by omega)]
          cases e : (t.args[i]).has k with
          | true => rfl
          | false => exact ih (i + 1) hi (by omega)
        · simp only [show decide ((i : Int) < (t.args.length : Int)) = false from by simpa using hi, cond_false]
          rw [List.drop_of_length_le (by omega), Ty.hasL]
    refine evw_run primsC (t.args.length + 1) rfl rfl rfl ?_
    rw [nf15]
    simp only [aggOf, bind_some', Ty.cells_len, Ty.c0, Ty.c1, Ty.c2, Ty.c3, Ty.c4, bin_int, intBin, boolOf, show Nat.beq 5 5 = true from rfl, cond_true]
    rw [Ty.has_eq]
    cases e : t.k == k with
    | true => rfl
    | false =>
      have := loop (t.args.length + 1) 0 (Nat.zero_le _) (by omega)
      rw [List.drop_zero] at this
      exact this
  termination_by t => SizeOf.sizeOf t
  decreasing_by exact Ty.size_arg hi

theorem closed_spec (t : Ty) (h : Heap) (ok : t.Ok) : evw E 36 [.agg t.cells] h = some (.ret (.lit (.bool (!t.has 6))), h) := by
  refine evw_run primsC 0 rfl rfl rfl ?_
  rw [nf36]
  simp only [aggOf, bind_some', Ty.cells_len, Ty.refold, show Nat.beq 5 5 = true from rfl, cond_true, has_spec t 6 h ok, onOut_ret, unAV]

theorem fits_spec (t : Ty) (h : Heap) (ok : t.Ok) : evw E 65 [.agg t.cells] h = some (.ret (.lit (.bool (decide (t.nodes ≤ 300)))), h) := by
  refine evw_run primsC 0 rfl rfl rfl ?_
  rw [nf65]
  simp only [aggOf, bind_some', Ty.cells_len, Ty.refold, show Nat.beq 5 5 = true from rfl, cond_true, nodes_spec t h ok, onOut_ret, bin_int, intBin]

mutual
def Ty.ahead (n : Int) : Ty → Bool
  | ⟨k, m, _, _, xs⟩ => !(k == 9 && decide (m ≥ n)) && Ty.aheadL n xs
def Ty.aheadL (n : Int) : List Ty → Bool
  | [] => true
  | t :: r => t.ahead n && Ty.aheadL n r
end
end Go.Sh.T

namespace Go.Sh.T
open Go Go.Sh
set_option linter.unusedSimpArgs false

def strEq (x y : ByteArray) : Bool := x.toList == y.toList
def sameS : List ByteArray → List ByteArray → Bool
  | [], _ => true
  | _, [] => true
  | x :: l, y :: m => strEq x y && sameS l m

theorem lenA23 (es : List (List AV)) : lenA E 23 (.sl 1 es) = some (es.length : Int) := (Eq.refl _).trans (by kernel_rfl)
theorem bin_str (T : TypeId) (op : BinOp) (x y : ByteArray) : binAV E op T (.lit (.string x)) (.lit (.string y)) = strBin op x y := (Eq.refl _).trans rfl
theorem part_str (s : ByteArray) : partA false 1 0 (strC s) = some (.lit (.string s)) := (Eq.refl _).trans rfl

theorem same79 (l m : List ByteArray) (hl : l.length ≤ maxLen) (h : Heap) : evw E 78 [.sl 1 (l.map strC), .sl 1 (m.map strC)] h = some (.ret (.lit (.bool (decide (l.length = m.length) && sameS l m))), h) := by
  have hl : l.length ≤ 9223372036854775807 := hl
  have loop : ∀ (q i : Nat), i ≤ l.length → l.length < q + i → Lp78_0 (evw E) (l.length + 1) h q h (.sl 1 (l.map strC)) (.sl 1 (m.map strC)) (.lit (.int .i64 (i : Int))) = some (.ret (.lit (.bool (sameS (l.drop i) (m.drop i)))), h) := by
    intro q
    induction q with
    | zero => intro i h1 h2; omega
    | succ q ih =>
      intro i h1 h2
      rw [Lp78_0_succ]
      simp only [lenA23, bind_some', bin_int, intBin, boolOf, List.length_map]
      by_cases hi : i < l.length
      · simp only [show decide ((i : Int) < (l.length : Int)) = true from by simpa using hi, cond_true]
        by_cases hj : i < m.length
        · simp only [show decide ((i : Int) < (m.length : Int)) = true from by simpa using hj, cond_true, indexA_map _ _ _ _ hi, indexA_map _ _ _ _ hj, bind_some', part_str, bin_str, strBin, boolOf]
          rw [List.drop_eq_getElem_cons hi, List.drop_eq_getElem_cons hj, sameS, IntWalk.i64_in ((i : Int) + 1) (by omega)]
          unfold strEq
          cases e : l[i].toList == m[i].toList with
          | false => rfl
          | true => exact ih (i + 1) hi (by omega)
        · simp only [show decide ((i : Int) < (m.length : Int)) = false from by simpa using hj, cond_false]
          rw [show m.drop i = [] from List.drop_eq_nil_of_le (by omega)]
          cases l.drop i <;> rfl
      · simp only [show decide ((i : Int) < (l.length : Int)) = false from by simpa using hi, cond_false]
        rw [show l.drop i = [] from List.drop_eq_nil_of_le (by omega)]
        rfl
  refine evw_run primsC (l.length + 1) rfl rfl rfl ?_
  rw [nf78]
  simp only [lenA23, bind_some', bin_int, intBin, boolOf, List.length_map]
  have hx : ((l.length : Int) != (m.length : Int)) = !decide (l.length = m.length) := by
    by_cases e : l.length = m.length
    · simp [e]
    · have : (l.length : Int) ≠ (m.length : Int) := by omega
      simp [e, this]
  rw [hx]
  cases e : decide (l.length = m.length) with
  | false => rfl
  | true =>
    have := loop (l.length + 1) 0 (Nat.zero_le _) (by omega)
    rw [show ((0 : Nat) : Int) = 0 from rfl, List.drop_zero, List.drop_zero] at this
    simp only [Bool.not_true, cond_false, Bool.true_and]
    exact this
end Go.Sh.T

namespace Go.Sh.T
open Go Go.Sh
set_option linter.unusedSimpArgs false

mutual
def Ty.same : Ty → Ty → Bool
  | ⟨k, n, s, ls, xs⟩, u => !(k != u.k) && !(n != u.n) && strEq s u.name && (decide (ls.length = u.labels.length) && sameS ls u.labels) && decide (xs.length = u.args.length) && Ty.sameL xs u.args
def Ty.sameL : List Ty → List Ty → Bool
  | [], _ => true
  | t :: r, m => match m with
    | [] => true
    | u :: m => Ty.same t u && Ty.sameL r m
end
theorem Ty.same_eq (t u : Ty) : t.same u = (!(t.k != u.k) && !(t.n != u.n) && strEq t.name u.name && (decide (t.labels.length = u.labels.length) && sameS t.labels u.labels) && decide (t.args.length = u.args.length) && Ty.sameL t.args u.args) := by
  cases t; rw [Ty.same]
theorem Ty.sameL_nil (l : List Ty) : Ty.sameL l [] = true := by cases l <;> rw [Ty.sameL]

theorem Ty.Ok.lab {t : Ty} (h : t.Ok) : t.labels.length ≤ maxLen := by cases h with | mk _ _ _ hl _ _ _ => exact hl

theorem same_spec : ∀ (t u : Ty) (h : Heap), t.Ok → evw E 61 [.agg t.cells, .agg u.cells] h = some (.ret (.lit (.bool (t.same u))), h)
  | t, u, h, ok => by
    have loop : ∀ (q i : Nat), i ≤ t.args.length → t.args.length < q + i → Lp61_0 (evw E) (t.args.length + 1) h q h (.lit (.int .i64 t.k)) (.lit (.int .i64 t.n)) (.lit (.string t.name)) (.sl 1 (t.labels.map strC)) (.sl 5 (t.args.map Ty.cells)) (.lit (.int .i64 u.k)) (.lit (.int .i64 u.n)) (.lit (.string u.name)) (.sl 1 (u.labels.map strC)) (.sl 5 (u.args.map Ty.cells)) (.lit (.int .i64 (i : Int))) = some (.ret (.lit (.bool (Ty.sameL (t.args.drop i) (u.args.drop i)))), h) := by
      intro q
      induction q with
      | zero => intro i h1 h2; omega
      | succ q ih =>
        intro i h1 h2
        have hlen := ok.len
        rw [Lp61_0_succ]
        simp only [lenA24, bind_some', bin_int, intBin, boolOf, List.length_map]
        by_cases hi : i < t.args.length
        · simp only [show decide ((i : Int) < (t.args.length : Int)) = true from by simpa using hi, cond_true]
          by_cases hj : i < u.args.length
          · have hrec := same_spec (t.args[i]) (u.args[i]) h (ok.arg (List.getElem_mem hi))
            simp only [show decide ((i : Int) < (u.args.length : Int)) = true from by simpa using hj, cond_true, indexA_map _ _ _ _ hi, indexA_map _ _ _ _ hj, bind_some', partA_full (Ty.cells_len _), hrec, onOut_ret, unAV, boolOf]
            rw [List.drop_eq_getElem_cons hi, List.drop_eq_getElem_cons hj, Ty.sameL, IntWalk.i64_in ((i : Int) + 1) (by omega)]
            cases e : (t.args[i]).same (u.args[i]) with
            | false => rfl
            | true => exact ih (i + 1) hi (by omega)
          · simp only [show decide ((i : Int) < (u.args.length : Int)) = false from by simpa using hj, cond_false]
            rw [show u.args.drop i = [] from List.drop_eq_nil_of_le (by omega), Ty.sameL_nil]
        · simp only [show decide ((i : Int) < (t.args.length : Int)) = false from by simpa using hi, cond_false]
          rw [show t.args.drop i = [] from List.drop_eq_nil_of_le (by omega), Ty.sameL]
    refine evw_run primsC (t.args.length + 1) rfl rfl rfl ?_
    rw [nf61]
    simp only [aggOf, bind_some', Ty.cells_len, Ty.c0, Ty.c1, Ty.c2, Ty.c3, Ty.c4, bin_int, intBin, bin_str, strBin, boolOf, show Nat.beq 5 5 = true from rfl, cond_true, same79 _ _ ok.lab, onOut_ret, unAV, lenA24, List.length_map]
    rw [Ty.same_eq]
    have hx : ((t.args.length : Int) != (u.args.length : Int)) = !decide (t.args.length = u.args.length) := by
      by_cases e : t.args.length = u.args.length
      · simp [e]
      · have : (t.args.length : Int) ≠ (u.args.length : Int) := by omega
        simp [e, this]
    have hl := loop (t.args.length + 1) 0 (Nat.zero_le _) (by omega)
    rw [show ((0 : Nat) : Int) = 0 from rfl, List.drop_zero, List.drop_zero] at hl
    rw [hx, hl]
    unfold strEq
    cases t.k != u.k <;> cases t.n != u.n <;> cases t.name.toList == u.name.toList <;> cases (decide (t.labels.length = u.labels.length) && sameS t.labels u.labels) <;> cases decide (t.args.length = u.args.length) <;> rfl
  termination_by t => SizeOf.sizeOf t
  decreasing_by exact Ty.size_arg hi
end Go.Sh.T

namespace Go.Sh.T
open Go Go.Sh
set_option linter.unusedSimpArgs false
set_option linter.unusedVariables false

theorem cond_ret (b : Bool) (x y : Value) (h : Heap) : cond b (some (Out.ret (.lit x), h)) (some (.ret (.lit y), h)) = some (.ret (.lit (cond b x y)), h) := by cases b <;> rfl

theorem lenS (s : ByteArray) : lenA E 9 (.lit (.string s)) = some (s.size : Int) := (Eq.refl _).trans (by kernel_rfl)
theorem indexS_at (s : ByteArray) (i : Nat) (h : i < (bytes s).length) : indexS (.lit (.string s)) (.lit (.int .i64 (i : Int))) = some (.lit (.int .u8 ((bytes s)[i].toNat : Int))) := by
  unfold indexS
  simp only [strOf, numOf, Option.bind_some, show decide ((0 : Int) ≤ (i : Int)) = true from by simp, cond_true, Int.toNat_natCast]
  have h' : i < s.size := by rw [← bytes_len]; exact h
  rw [getElem?_pos s i h']
  rfl

/- low, up, digit -/
theorem low_spec (c : Int) (h : Heap) : evw E 80 [.lit (.int .u8 c)] h = some (.ret (.lit (.bool (lowB c))), h) := by
  refine evw_run primsC 0 rfl rfl rfl ?_
  rw [nf80]; simp only [bin_int, intBin, bind_some', boolOf, cond_ret, lowB]; cases decide (c ≥ 97) <;> rfl
theorem up_spec (c : Int) (h : Heap) : evw E 81 [.lit (.int .u8 c)] h = some (.ret (.lit (.bool (upB c))), h) := by
  refine evw_run primsC 0 rfl rfl rfl ?_
  rw [nf81]; simp only [bin_int, intBin, bind_some', boolOf, cond_ret, upB]; cases decide (c ≥ 65) <;> rfl
theorem dig_spec (c : Int) (h : Heap) : evw E 82 [.lit (.int .u8 c)] h = some (.ret (.lit (.bool (digB c))), h) := by
  refine evw_run primsC 0 rfl rfl rfl ?_
  rw [nf82]; simp only [bin_int, intBin, bind_some', boolOf, cond_ret, digB]; cases decide (c ≥ 48) <;> rfl

/- kept -/
def keys3 : List ByteArray := [⟨#[108, 101, 116]⟩, ⟨#[105, 110]⟩, ⟨#[105, 102]⟩, ⟨#[116, 104, 101, 110]⟩, ⟨#[101, 108, 115, 101]⟩, ⟨#[102, 110]⟩, ⟨#[99, 97, 108, 108]⟩, ⟨#[100, 101, 102]⟩, ⟨#[116, 114, 117, 101]⟩, ⟨#[102, 97, 108, 115, 101]⟩]
def keys4 : List ByteArray := [⟨#[73, 110, 116]⟩, ⟨#[66, 111, 111, 108]⟩, ⟨#[83, 116, 114, 105, 110, 103]⟩, ⟨#[84, 111, 112]⟩]
def keptR (s : ByteArray) : Int := bif keys3.any (fun k => strEq k s) then 3 else bif keys4.any (fun k => strEq k s) then 4 else 0

theorem kept_spec (s : ByteArray) (h : Heap) : evw E 79 [.lit (.string s)] h = some (.ret (.lit (.int .i64 (keptR s))), h) := by
  have loop1 : ∀ (l : List ByteArray) (q i : Nat), l.length ≤ 10 → i ≤ l.length → l.length < q + i → Lp79_1 (evw E) 20 h q h (.lit (.string s)) (l.map strC) (.lit (.int .i64 (i : Int))) = some (.ret (.lit (.int .i64 (bif (l.drop i).any (fun k => strEq k s) then 4 else 0))), h) := by
    intro l q
    induction q with
    | zero => intro i h1 h2; omega
    | succ q ih =>
      intro i h0 h1 h2
      rw [Lp79_1_succ]
      simp only [lenA23, bind_some', bin_int, intBin, boolOf, List.length_map]
      by_cases hi : i < l.length
      · simp only [show decide ((i : Int) < (l.length : Int)) = true from by simpa using hi, cond_true, indexA_map _ _ _ _ hi, bind_some', part_str, bin_str, strBin, boolOf]
        rw [List.drop_eq_getElem_cons hi, List.any_cons, IntWalk.i64_in ((i : Int) + 1) (by omega)]
        unfold strEq
        cases e : l[i].toList == s.toList with
        | true => rfl
        | false => exact ih (i + 1) h0 hi (by omega)
      · simp only [show decide ((i : Int) < (l.length : Int)) = false from by simpa using hi, cond_false]
        rw [show l.drop i = [] from List.drop_eq_nil_of_le (by omega)]
        rfl
  have loop0 : ∀ (l : List ByteArray) (q i : Nat), l.length ≤ 10 → i ≤ l.length → l.length < q + i → Lp79_0 (evw E) 20 h q h (.lit (.string s)) (l.map strC) (.lit (.int .i64 (i : Int))) = some (.ret (.lit (.int .i64 (bif (l.drop i).any (fun k => strEq k s) then 3 else bif keys4.any (fun k => strEq k s) then 4 else 0))), h) := by
    intro l q
    induction q with
    | zero => intro i h1 h2; omega
    | succ q ih =>
      intro i h0 h1 h2
      rw [Lp79_0_succ]
      simp only [lenA23, bind_some', bin_int, intBin, boolOf, List.length_map]
      by_cases hi : i < l.length
      · simp only [show decide ((i : Int) < (l.length : Int)) = true from by simpa using hi, cond_true, indexA_map _ _ _ _ hi, bind_some', part_str, bin_str, strBin, boolOf]
        rw [List.drop_eq_getElem_cons hi, List.any_cons, IntWalk.i64_in ((i : Int) + 1) (by omega)]
        unfold strEq
        cases e : l[i].toList == s.toList with
        | true => rfl
        | false => exact ih (i + 1) h0 hi (by omega)
      · simp only [show decide ((i : Int) < (l.length : Int)) = false from by simpa using hi, cond_false]
        rw [show l.drop i = [] from List.drop_eq_nil_of_le (by omega)]
        exact loop1 keys4 20 0 (by decide) (by decide) (by decide)
  refine evw_run primsC 20 rfl rfl rfl ?_
  rw [nf79]
  exact loop0 keys3 20 0 (by decide) (by decide) (by decide)

/- kind -/
def badR (kind c : Int) : Bool := !digB c && !lowB c && (!upB c || kind == 1)
def kindL (kind : Int) : List UInt8 → Int
  | [] => kind
  | c :: r => bif badR kind c.toNat then 0 else kindL kind r
def kind0 (c : Int) : Int := bif upB c then 2 else bif lowB c then 1 else 0
def kindR (s : ByteArray) : Int := bif keptR s != 0 then keptR s else match bytes s with
  | [] => 0
  | c :: r => bif decide (r.length ≥ 8) then 0 else kindL (kind0 c.toNat) r

theorem kind_loop (s : ByteArray) (h : Heap) : ∀ (kind : Int) (q i : Nat), (bytes s).length ≤ 8 → i ≤ (bytes s).length → (bytes s).length < q + i → Lp63_0 (evw E) 20 h q h (.lit (.string s)) (.lit (.int .i64 kind)) (.lit (.int .i64 (i : Int))) = some (.ret (.lit (.int .i64 (kindL kind ((bytes s).drop i)))), h) := by
    intro kind q
    induction q with
    | zero => intro i h1 h2; omega
    | succ q ih =>
      intro i h0 h1 h2
      rw [Lp63_0_succ]
      simp only [lenS, ← bytes_len, bind_some', bin_int, intBin, boolOf]
      by_cases hi : i < (bytes s).length
      · simp only [show decide ((i : Int) < ((bytes s).length : Int)) = true from by simpa using hi, cond_true, indexS_at s i hi, bind_some', dig_spec, low_spec, up_spec, onOut_ret, unAV, boolOf, bin_int, intBin]
        rw [List.drop_eq_getElem_cons hi, kindL, IntWalk.i64_in ((i : Int) + 1) (by omega), badR]
        have := ih (i + 1) h0 hi (by omega)
        simp only [Int.natCast_add, Int.cast_ofNat_Int] at this
        rw [this]
        cases digB (bytes s)[i].toNat <;> cases lowB (bytes s)[i].toNat <;> cases upB (bytes s)[i].toNat <;> cases kind == 1 <;> rfl
      · simp only [show decide ((i : Int) < ((bytes s).length : Int)) = false from by simpa using hi, cond_false]
        rw [show (bytes s).drop i = [] from List.drop_eq_nil_of_le (by omega)]
        rfl
end Go.Sh.T

namespace Go.Sh.T
open Go Go.Sh
set_option linter.unusedSimpArgs false
set_option linter.unusedVariables false
theorem kind_spec (s : ByteArray) (h : Heap) : evw E 63 [.lit (.string s)] h = some (.ret (.lit (.int .i64 (kindR s))), h) := by
  have loop := kind_loop s h
  refine evw_run primsC 20 rfl rfl rfl ?_
  rw [nf63]
  simp only [kept_spec, onOut_ret, bin_int, intBin, bind_some', boolOf, lenS, ← bytes_len]
  unfold kindR
  cases e : keptR s != 0 with
  | true => rfl
  | false =>
    simp only [condF]
    cases hb : bytes s with
    | nil => rfl
    | cons c r =>
      rw [hb] at loop
      have hi0 : 0 < (bytes s).length := by rw [hb]; simp
      have h0 := indexS_at s 0 hi0
      rw [show ((0 : Nat) : Int) = 0 from rfl] at h0
      have hg : (bytes s)[0] = c := by simp [hb]
      rw [hg] at h0
      simp only [h0, bind_some', up_spec, low_spec, onOut_ret, boolOf, List.length_cons]
      have e1 : decide (((r.length + 1 : Nat) : Int) < 1) = false := by simp; omega
      rw [e1, cond_false]
      by_cases h8 : r.length ≥ 8
      · rw [show decide (r.length ≥ 8) = true from by simpa using h8, show decide (((r.length + 1 : Nat) : Int) > 8) = true from by simp; omega]; rfl
      · rw [show decide (r.length ≥ 8) = false from by simpa using h8, show decide (((r.length + 1 : Nat) : Int) > 8) = false from by simp; omega]
        simp only [condF]
        have hl : ∀ kind : Int, Lp63_0 (evw E) 20 h 20 h (.lit (.string s)) (.lit (.int .i64 kind)) (.lit (.int .i64 1)) = some (.ret (.lit (.int .i64 (kindL kind r))), h) := by
          intro kind
          have := loop kind 20 1 (by simp; omega) (by simp) (by simp; omega)
          rw [show ((1 : Nat) : Int) = 1 from rfl, show List.drop 1 (c :: r) = r from rfl] at this
          exact this
        rw [hl, hl, hl]
        unfold kind0
        cases upB c.toNat <;> cases lowB c.toNat <;> rfl

end Go.Sh.T

namespace Go.Sh.T
open Go Go.Sh
set_option linter.unusedSimpArgs false
set_option linter.unusedVariables false
theorem fine_spec (s : ByteArray) (h : Heap) : evw E 64 [.lit (.string s)] h = some (.ret (.lit (.bool (kindR s == 1))), h) := by
  refine evw_run primsC 0 rfl rfl rfl ?_
  rw [nf64]; simp only [kind_spec, onOut_ret, bin_int, intBin, bind_some']
theorem var_spec (s : ByteArray) (h : Heap) : evw E 32 [.lit (.string s)] h = some (.ret (.lit (.bool (kindR s == 2))), h) := by
  refine evw_run primsC 0 rfl rfl rfl ?_
  rw [nf32]; simp only [kind_spec, onOut_ret, bin_int, intBin, bind_some']

/- rising -/
def strLt (x y : ByteArray) : Bool := Op.bytesLess x.toList y.toList
def gapR (p : Option ByteArray) (s : ByteArray) : Bool := match p with
  | none => true
  | some q => strLt q s
def risingR : List ByteArray → Option ByteArray → Bool
  | [], _ => true
  | s :: r, p => kindR s == 1 && gapR p s && risingR r (some s)

theorem rising_spec (l : List ByteArray) (hl : l.length ≤ maxLen) (h : Heap) : evw E 33 [.sl 1 (l.map strC)] h = some (.ret (.lit (.bool (risingR l none))), h) := by
  have hl : l.length ≤ 9223372036854775807 := hl
  have loop : ∀ (q i : Nat), i ≤ l.length → l.length < q + i → Lp33_0 (evw E) (l.length + 1) h q h (.sl 1 (l.map strC)) (.lit (.int .i64 (i : Int))) = some (.ret (.lit (.bool (risingR (l.drop i) (if i = 0 then none else l[i - 1]?)))), h) := by
    intro q
    induction q with
    | zero => intro i h1 h2; omega
    | succ q ih =>
      intro i h1 h2
      rw [Lp33_0_succ]
      simp only [lenA23, bind_some', bin_int, intBin, boolOf, List.length_map]
      by_cases hi : i < l.length
      · simp only [show decide ((i : Int) < (l.length : Int)) = true from by simpa using hi, cond_true, indexA_map _ _ _ _ hi, bind_some', part_str, fine_spec, onOut_ret, unAV, boolOf, bin_int, intBin]
        rw [List.drop_eq_getElem_cons hi, risingR, IntWalk.i64_in ((i : Int) + 1) (by omega)]
        have hn := ih (i + 1) hi (by omega)
        rw [if_neg (by omega), Nat.add_sub_cancel, List.getElem?_eq_getElem hi, Int.natCast_add, show ((1 : Nat) : Int) = 1 from rfl] at hn
        cases e : kindR l[i] == 1 with
        | false => rfl
        | true =>
          by_cases h0 : i = 0
          · subst h0
            simp only [Bool.not_true, cond_false, show decide (((0 : Nat) : Int) > 0) = false from rfl]
            rw [if_pos trivial]
            exact hn
          · have hi1 : i - 1 < l.length := by omega
            rw [if_neg h0, List.getElem?_eq_getElem hi1, IntWalk.i64_in ((i : Int) - 1) (by omega), show (i : Int) - 1 = ((i - 1 : Nat) : Int) from by omega]
            simp only [Bool.not_true, cond_false, show decide ((i : Int) > 0) = true from by simp; omega, cond_true, indexA_map _ _ _ _ hi1, indexA_map _ _ _ _ hi, bind_some', part_str, bin_str, strBin, boolOf]
            simp only [gapR, strLt, Bool.true_and]
            cases e2 : Op.bytesLess l[i - 1].toList l[i].toList with
            | false => rfl
            | true => exact hn
      · simp only [show decide ((i : Int) < (l.length : Int)) = false from by simpa using hi, cond_false]
        rw [show l.drop i = [] from List.drop_eq_nil_of_le (by omega)]
        rfl
  refine evw_run primsC (l.length + 1) rfl rfl rfl ?_
  rw [nf33]
  have := loop (l.length + 1) 0 (Nat.zero_le _) (by omega)
  rw [if_pos rfl, List.drop_zero] at this
  exact this
end Go.Sh.T

namespace Go.Sh.T
open Go Go.Sh
set_option linter.unusedSimpArgs false
set_option linter.unusedVariables false

def emptyS (s : ByteArray) : Bool := s.toList == ByteArray.empty.toList
/-- Is a node as its kind wants it? -/
def nodeR (k n : Int) (s : ByteArray) (ls : List ByteArray) (m : Nat) : Bool :=
  !((k != 6 && !emptyS s) || (k != 9 && n != 0) || (k != 8 && decide ((ls.length : Int) > 0))) &&
  (bif decide (k ≥ 1) && decide (k ≤ 5) then (m : Int) == 0 else bif k == 6 then kindR s == 2 && (m : Int) == 0 else
   bif k == 9 then decide (n ≥ 0) && (decide (n ≤ 1073741824) && (m : Int) == 0) else bif k == 7 then (m : Int) == 2 else k == 8 && (risingR ls none && (ls.length : Int) == (m : Int)))

mutual
def Ty.right : Ty → Bool
  | ⟨k, n, s, ls, xs⟩ => Ty.rightL xs && nodeR k n s ls xs.length
def Ty.rightL : List Ty → Bool
  | [] => true
  | t :: r => t.right && Ty.rightL r
end
theorem Ty.right_eq (t : Ty) : t.right = (Ty.rightL t.args && nodeR t.k t.n t.name t.labels t.args.length) := by cases t; rw [Ty.right]

theorem right_tail (t : Ty) (ok : t.Ok) (h : Heap) (m : Nat) : Lp14_0 (evw E) (t.args.length + 1) h (m + 1) h (.lit (.int .i64 t.k)) (.lit (.int .i64 t.n)) (.lit (.string t.name)) (.sl 1 (t.labels.map strC)) (.sl 5 (t.args.map Ty.cells)) (.lit (.int .i64 (t.args.length : Int))) = some (.ret (.lit (.bool (nodeR t.k t.n t.name t.labels t.args.length))), h) := by
  rw [Lp14_0_succ]
  have hl := rising_spec t.labels ok.lab h
  have h6 : t.k = 6 ∨ t.k = 7 ∨ t.k = 8 ∨ t.k = 9 ∨ (t.k ≠ 6 ∧ t.k ≠ 7 ∧ t.k ≠ 8 ∧ t.k ≠ 9) := by omega
  have e0 : decide ((t.args.length : Int) < (t.args.length : Int)) = false := by simp
  unfold nodeR emptyS
  rcases h6 with e | e | e | e | ⟨e1, e2, e3, e4⟩
  · rw [e]
    simp only [lenA24, lenA23, bind_some', bin_int, intBin, boolOf, List.length_map, e0, cond_false, cond_true, bin_str, strBin, var_spec, hl, onOut_ret, unAV, show ((6 : Int) != 6) = false from rfl, show ((6 : Int) != 9) = true from rfl, show ((6 : Int) != 8) = true from rfl, show ((6 : Int) == 6) = true from rfl, show decide ((6 : Int) ≥ 1) = true from rfl, show decide ((6 : Int) ≤ 5) = false from rfl, Bool.false_and, Bool.true_and, Bool.false_or]
    cases t.n != 0 <;> cases decide ((t.labels.length : Int) > 0) <;> cases kindR t.name == 2 <;> rfl
  · rw [e]
    simp only [lenA24, lenA23, bind_some', bin_int, intBin, boolOf, List.length_map, e0, cond_false, cond_true, bin_str, strBin, var_spec, hl, onOut_ret, unAV, show ((7 : Int) != 6) = true from rfl, show ((7 : Int) != 9) = true from rfl, show ((7 : Int) != 8) = true from rfl, show ((7 : Int) == 6) = false from rfl, show ((7 : Int) == 9) = false from rfl, show ((7 : Int) == 7) = true from rfl, show decide ((7 : Int) ≥ 1) = true from rfl, show decide ((7 : Int) ≤ 5) = false from rfl, Bool.false_and, Bool.true_and, Bool.false_or]
    cases t.name.toList == ByteArray.empty.toList <;> cases t.n != 0 <;> cases decide ((t.labels.length : Int) > 0) <;> rfl
  · rw [e]
    simp only [lenA24, lenA23, bind_some', bin_int, intBin, boolOf, List.length_map, e0, cond_false, cond_true, bin_str, strBin, var_spec, hl, onOut_ret, unAV, show ((8 : Int) != 6) = true from rfl, show ((8 : Int) != 9) = true from rfl, show ((8 : Int) != 8) = false from rfl, show ((8 : Int) == 6) = false from rfl, show ((8 : Int) == 9) = false from rfl, show ((8 : Int) == 7) = false from rfl, show ((8 : Int) == 8) = true from rfl, show decide ((8 : Int) ≥ 1) = true from rfl, show decide ((8 : Int) ≤ 5) = false from rfl, Bool.false_and, Bool.true_and, Bool.false_or]
    cases t.name.toList == ByteArray.empty.toList <;> cases t.n != 0 <;> cases risingR t.labels none <;> rfl
  · rw [e]
    simp only [lenA24, lenA23, bind_some', bin_int, intBin, boolOf, List.length_map, e0, cond_false, cond_true, bin_str, strBin, var_spec, hl, onOut_ret, unAV, show ((9 : Int) != 6) = true from rfl, show ((9 : Int) != 9) = false from rfl, show ((9 : Int) != 8) = true from rfl, show ((9 : Int) == 6) = false from rfl, show ((9 : Int) == 9) = true from rfl, show decide ((9 : Int) ≥ 1) = true from rfl, show decide ((9 : Int) ≤ 5) = false from rfl, Bool.false_and, Bool.true_and, Bool.false_or]
    cases t.name.toList == ByteArray.empty.toList <;> cases decide (t.n ≥ 0) <;> cases decide (t.n ≤ 1073741824) <;> cases decide ((t.labels.length : Int) > 0) <;> rfl
  · have d6 : (t.k != 6) = true := by simpa using e1
    have d8 : (t.k != 8) = true := by simpa using e3
    have d9 : (t.k != 9) = true := by simpa using e4
    have f6 : (t.k == 6) = false := by simpa using e1
    have f7 : (t.k == 7) = false := by simpa using e2
    have f8 : (t.k == 8) = false := by simpa using e3
    have f9 : (t.k == 9) = false := by simpa using e4
    simp only [lenA24, lenA23, bind_some', bin_int, intBin, boolOf, List.length_map, e0, cond_false, cond_true, bin_str, strBin, var_spec, hl, onOut_ret, unAV, d6, d8, d9, f6, f7, f8, f9, Bool.false_and, Bool.true_and, Bool.false_or]
    cases t.name.toList == ByteArray.empty.toList <;> cases t.n != 0 <;> cases decide ((t.labels.length : Int) > 0) <;> cases decide (t.k ≥ 1) <;> cases decide (t.k ≤ 5) <;> rfl

theorem right_spec : ∀ (t : Ty) (h : Heap), t.Ok → evw E 14 [.agg t.cells] h = some (.ret (.lit (.bool t.right)), h)
  | t, h, ok => by
    have hlen := ok.len
    have loop : ∀ (m i : Nat), i ≤ t.args.length → t.args.length < m + i → Lp14_0 (evw E) (t.args.length + 1) h m h (.lit (.int .i64 t.k)) (.lit (.int .i64 t.n)) (.lit (.string t.name)) (.sl 1 (t.labels.map strC)) (.sl 5 (t.args.map Ty.cells)) (.lit (.int .i64 (i : Int))) = some (.ret (.lit (.bool (Ty.rightL (t.args.drop i) && nodeR t.k t.n t.name t.labels t.args.length))), h) := by
      intro m
      induction m with
      | zero => intro i h1 h2; omega
      | succ m ih =>
        intro i h1 h2
        by_cases hi : i < t.args.length
        · rw [Lp14_0_succ, lenA24, bind_some', bin_int, List.length_map]
          have hrec := right_spec (t.args[i]) h (ok.arg (List.getElem_mem hi))
          rw [show intBin .lss .i64 (i : Int) (t.args.length : Int) = some (.lit (.bool true)) from by unfold intBin; rw [show decide ((i : Int) < (t.args.length : Int)) = true from by simpa using hi]]
          rw [bind_some', show boolOf (.lit (.bool true)) = some true from rfl, bind_some', condT, indexA_map _ _ _ _ hi, bind_some', partA_full (Ty.cells_len _), bind_some', hrec, onOut_ret]
          rw [List.drop_eq_getElem_cons hi, Ty.rightL, bin_int]
          simp only [unAV, bind_some', boolOf, intBin]
          rw [IntWalk.i64_in ((i : Int) + 1) (by omega)]
          cases e : (t.args[i]).right with
          | false => rfl
          | true => rw [Bool.not_true, condF, Bool.true_and]; exact ih (i + 1) hi (by omega)
        · have hi' : i = t.args.length := by omega
          subst hi'
          rw [right_tail t ok h m, List.drop_length, Ty.rightL, Bool.true_and]
    refine evw_run primsC (t.args.length + 1) rfl rfl rfl ?_
    rw [nf14]
    have := loop (t.args.length + 1) 0 (Nat.zero_le _) (by omega)
    rw [List.drop_zero, show ((0 : Nat) : Int) = 0 from rfl] at this
    rw [Ty.right_eq, ← this]
    rw [show aggOf (.agg t.cells) = some t.cells from rfl, bind_some', Ty.cells_len, show Nat.beq 5 5 = true from rfl, condT, Ty.c0, Ty.c1, Ty.c2, Ty.c3, Ty.c4]
  termination_by t => SizeOf.sizeOf t
  decreasing_by exact Ty.size_arg hi
end Go.Sh.T

namespace Go.Sh.T
open Go Go.Sh
set_option linter.unusedSimpArgs false
set_option linter.unusedVariables false

/- how much a type has -/
def quo8 (s : ByteArray) : Int := IntKind.i64.wrap ((s.size : Int).tdiv 8)
def labs (n : Int) : List ByteArray → Int
  | [] => n
  | s :: r => labs (add64 n (quo8 s)) r
mutual
def Ty.much : Ty → Int
  | ⟨_, _, s, ls, xs⟩ => Ty.muchL (labs (add64 (add64 1 (quo8 s)) ls.length) (ls.take 1000)) xs
def Ty.muchL (n : Int) : List Ty → Int
  | [] => n
  | t :: r => bif decide (n < 3000) then Ty.muchL (add64 n t.much) r else n
end
theorem Ty.much_eq (t : Ty) : t.much = Ty.muchL (labs (add64 (add64 1 (quo8 t.name)) t.labels.length) (t.labels.take 1000)) t.args := by cases t; rw [Ty.much]

theorem div8 (s : ByteArray) : intBin .quo .i64 (s.size : Int) 8 = some (.lit (.int .i64 (quo8 s))) := (Eq.refl _).trans rfl

theorem much_spec : ∀ (t : Ty) (h : Heap), t.Ok → evw E 20 [.agg t.cells] h = some (.ret (.lit (.int .i64 t.much)), h)
  | t, h, ok => by
    have hlen := ok.len
    have hlab : t.labels.length ≤ 9223372036854775807 := ok.lab
    have loop1 : ∀ (m i : Nat) (acc : Int), i ≤ t.args.length → t.args.length < m + i → Lp20_1 (evw E) (t.args.length + t.labels.length + 1) h m h (.lit (.int .i64 t.k)) (.lit (.int .i64 t.n)) (.lit (.string t.name)) (.sl 1 (t.labels.map strC)) (.sl 5 (t.args.map Ty.cells)) (.lit (.int .i64 acc)) (.lit (.int .i64 (i : Int))) = some (.ret (.lit (.int .i64 (Ty.muchL acc (t.args.drop i)))), h) := by
      intro m
      induction m with
      | zero => intro i acc h1 h2; omega
      | succ m ih =>
        intro i acc h1 h2
        rw [Lp20_1_succ]
        simp only [lenA24, bind_some', bin_int, lssI, boolB, List.length_map]
        by_cases hi : i < t.args.length
        · have hrec := much_spec (t.args[i]) h (ok.arg (List.getElem_mem hi))
          rw [show decide ((i : Int) < (t.args.length : Int)) = true from by simpa using hi, condT, List.drop_eq_getElem_cons hi, Ty.muchL]
          cases decide (acc < 3000) with
          | false => rfl
          | true =>
            rw [condT, condT]
            simp only [indexA_map _ _ _ _ hi, bind_some', partA_full (Ty.cells_len _), hrec, onOut_ret, bin_int, addI]
            rw [incI (by omega)]
            exact ih (i + 1) _ hi (by omega)
        · rw [show decide ((i : Int) < (t.args.length : Int)) = false from by simpa using hi, condF]
          rw [List.drop_of_length_le (by omega), Ty.muchL]
    have loop0 : ∀ (m i : Nat) (acc : Int), i ≤ t.labels.length → t.labels.length < m + i → Lp20_0 (evw E) (t.args.length + t.labels.length + 1) h m h (.lit (.int .i64 t.k)) (.lit (.int .i64 t.n)) (.lit (.string t.name)) (.sl 1 (t.labels.map strC)) (.sl 5 (t.args.map Ty.cells)) (.lit (.int .i64 acc)) (.lit (.int .i64 (i : Int))) = some (.ret (.lit (.int .i64 (Ty.muchL (labs acc ((t.labels.drop i).take (1000 - i))) t.args))), h) := by
      have fin := fun acc => loop1 (t.args.length + t.labels.length + 1) 0 acc (Nat.zero_le _) (by omega)
      intro m
      induction m with
      | zero => intro i acc h1 h2; omega
      | succ m ih =>
        intro i acc h1 h2
        rw [Lp20_0_succ]
        simp only [lenA23, bind_some', bin_int, lssI, boolB, List.length_map]
        have fin' := fin acc
        rw [List.drop_zero, show ((0 : Nat) : Int) = 0 from rfl] at fin'
        by_cases hi : i < t.labels.length
        · rw [show decide ((i : Int) < (t.labels.length : Int)) = true from by simpa using hi, condT]
          by_cases hk : i < 1000
          · rw [show decide ((i : Int) < 1000) = true from by simp; omega, condT]
            simp only [indexA_map _ _ _ _ hi, bind_some', part_str, lenS, bin_int, div8, addI]
            rw [incI (by omega), List.drop_eq_getElem_cons hi, show 1000 - i = (1000 - (i + 1)) + 1 from by omega, List.take_succ_cons, labs]
            exact ih (i + 1) _ hi (by omega)
          · rw [show decide ((i : Int) < 1000) = false from by simp; omega, condF, show 1000 - i = 0 from by omega, List.take_zero, labs]
            exact fin'
        · rw [show decide ((i : Int) < (t.labels.length : Int)) = false from by simpa using hi, condF, List.drop_of_length_le (by omega), List.take_nil, labs]
          exact fin'
    refine evw_run primsC (t.args.length + t.labels.length + 1) rfl rfl rfl ?_
    rw [nf20]
    simp only [aggS, bind_some', Ty.cells_len, Ty.c0, Ty.c1, Ty.c2, Ty.c3, Ty.c4, lenS, bin_int, div8, addI, lenA23, List.length_map, show Nat.beq 5 5 = true from rfl]
    rw [condT]
    have := loop0 (t.args.length + t.labels.length + 1) 0 (add64 (add64 1 (quo8 t.name)) t.labels.length) (Nat.zero_le _) (by omega)
    rw [List.drop_zero, Nat.sub_zero, show ((0 : Nat) : Int) = 0 from rfl, ← Ty.much_eq] at this
    exact this
  termination_by t => SizeOf.sizeOf t
  decreasing_by exact Ty.size_arg hi

/- seals -/
structure Seal where
  rep : Ty
  bound : Ty
  df : ByteArray
  nd : Int
def Seal.cells (s : Seal) : List AV := s.rep.cells ++ (s.bound.cells ++ [.lit (.string s.df), .lit (.int .i64 s.nd)])
structure Seal.Ok (s : Seal) : Prop where
  rep : s.rep.Ok
  bound : s.bound.Ok
  df : s.df.size ≤ maxLen
@[simp] theorem Seal.len (s : Seal) : s.cells.length = 12 := by simp [Seal.cells]
theorem Seal.p0 (s : Seal) : partA true 5 0 (s.cells.drop 0) = some (.agg s.rep.cells) := by
  unfold partA
  rw [List.drop_zero, Seal.len, show Nat.ble (0 + 5) 12 = true from rfl, condT, condT, List.drop_zero, Seal.cells, List.take_left' (Ty.cells_len _)]
theorem Seal.d10 (s : Seal) : s.cells.drop 10 = [.lit (.string s.df), .lit (.int .i64 s.nd)] := by
  rw [show (10 : Nat) = 5 + 5 from rfl, ← List.drop_drop, Seal.cells, List.drop_left' (Ty.cells_len _), List.drop_left' (Ty.cells_len _)]
theorem get_rep (s : Seal) (i : Nat) (h : i < 5) : s.cells.getD i .dead = s.rep.cells.getD i .dead := by
  rw [Seal.cells, List.getD_eq_getElem?_getD, List.getElem?_append_left (by rw [Ty.cells_len]; exact h), ← List.getD_eq_getElem?_getD]
theorem get_bound (s : Seal) (i : Nat) (h : i < 5) : s.cells.getD (5 + i) .dead = s.bound.cells.getD i .dead := by
  rw [Seal.cells, List.getD_eq_getElem?_getD, List.getElem?_append_right (by rw [Ty.cells_len]; omega), Ty.cells_len, Nat.add_sub_cancel_left, List.getElem?_append_left (by rw [Ty.cells_len]; exact h), ← List.getD_eq_getElem?_getD]
theorem Seal.reRep (s : Seal) : [s.cells.getD 0 .dead, s.cells.getD 1 .dead, s.cells.getD 2 .dead, s.cells.getD 3 .dead, s.cells.getD 4 .dead] = s.rep.cells := by
  rw [get_rep s 0 (by decide), get_rep s 1 (by decide), get_rep s 2 (by decide), get_rep s 3 (by decide), get_rep s 4 (by decide), Ty.refold]
theorem Seal.reBound (s : Seal) : [s.cells.getD 5 .dead, s.cells.getD 6 .dead, s.cells.getD 7 .dead, s.cells.getD 8 .dead, s.cells.getD 9 .dead] = s.bound.cells := by
  rw [get_bound s 0 (by decide), get_bound s 1 (by decide), get_bound s 2 (by decide), get_bound s 3 (by decide), get_bound s 4 (by decide), Ty.refold]
theorem Seal.g10 (s : Seal) : s.cells.getD 10 .dead = .lit (.string s.df) := by
  have := congrArg (fun l => l.getD 0 AV.dead) s.d10
  simpa [List.getD_eq_getElem?_getD] using this
theorem Seal.g11 (s : Seal) : s.cells.getD 11 .dead = .lit (.int .i64 s.nd) := by
  have := congrArg (fun l => l.getD 1 AV.dead) s.d10
  simpa [List.getD_eq_getElem?_getD] using this
theorem Seal.re (s : Seal) : [s.cells.getD 0 .dead, s.cells.getD 1 .dead, s.cells.getD 2 .dead, s.cells.getD 3 .dead, s.cells.getD 4 .dead, s.cells.getD 5 .dead, s.cells.getD 6 .dead, s.cells.getD 7 .dead, s.cells.getD 8 .dead, s.cells.getD 9 .dead, s.cells.getD 10 .dead, s.cells.getD 11 .dead] = s.cells := by
  have h1 := s.reRep; have h2 := s.reBound
  have : ∀ a b c d e f g h i j k l : AV, [a, b, c, d, e, f, g, h, i, j, k, l] = [a, b, c, d, e] ++ ([f, g, h, i, j] ++ [k, l]) := fun _ _ _ _ _ _ _ _ _ _ _ _ => rfl
  rw [this, h1, h2, Seal.g10, Seal.g11, Seal.cells]

/-- how much the largest has -/
def max64 (x : Int) (l : List Int) : Int := l.foldl (fun x y => if y > x then y else x) x
def few15L (n : Int) : List Seal → Int
  | [] => n
  | s :: r => few15L (max64 n [s.rep.much, s.bound.much, quo8 s.df]) r
def few15 (l : List Seal) : Int := bif decide ((l.length : Int) > 12) then 5000 else few15L 0 (l.take 20)

theorem maxs_i64 : ∀ (x : Int) (l : List Int), maxs (.lit (.int .i64 x)) (l.map fun y => .lit (.int .i64 y)) = some (.lit (.int .i64 (max64 x l)))
  | x, [] => rfl
  | x, y :: l => by
    rw [List.map_cons, maxs, maxs_i64 _ l]; rfl

end Go.Sh.T

namespace Go.Sh.T
open Go Go.Sh
set_option linter.unusedSimpArgs false
set_option linter.unusedVariables false

structure Val where
  k : Int
  n : Int
  m : Int
  inn : Bool
  s : ByteArray
  df : ByteArray
  nd : Int
  types : List Ty
  labels : List ByteArray
  kids : List Val
structure Core where
  k : Int
  n : Int
  m : Int
  inn : Bool
  name : ByteArray
  df : ByteArray
  nd : Int
  types : List Ty
  labels : List ByteArray
  kids : List Core
  vals : List Val

mutual
def Val.cells : Val → List AV
  | ⟨k, n, m, b, s, d, e, ts, ls, xs⟩ => [.lit (.int .i64 k), .lit (.int .i64 n), .lit (.int .i64 m), .lit (.bool b), .lit (.string s), .lit (.string d), .lit (.int .i64 e), .sl 5 (ts.map Ty.cells), .sl 1 (ls.map strC), .sl 10 (Val.cellsL xs)]
def Val.cellsL : List Val → List (List AV)
  | [] => []
  | t :: r => t.cells :: Val.cellsL r
end
theorem Val.cellsL_map : ∀ l : List Val, Val.cellsL l = l.map Val.cells
  | [] => rfl
  | t :: r => by rw [Val.cellsL, Val.cellsL_map r]; rfl
theorem Val.cells_eq (t : Val) : t.cells = [.lit (.int .i64 t.k), .lit (.int .i64 t.n), .lit (.int .i64 t.m), .lit (.bool t.inn), .lit (.string t.s), .lit (.string t.df), .lit (.int .i64 t.nd), .sl 5 (t.types.map Ty.cells), .sl 1 (t.labels.map strC), .sl 10 (t.kids.map Val.cells)] := by
  cases t; rw [Val.cells, Val.cellsL_map]
mutual
def Core.cells : Core → List AV
  | ⟨k, n, m, b, s, d, e, ts, ls, xs, vs⟩ => [.lit (.int .i64 k), .lit (.int .i64 n), .lit (.int .i64 m), .lit (.bool b), .lit (.string s), .lit (.string d), .lit (.int .i64 e), .sl 5 (ts.map Ty.cells), .sl 1 (ls.map strC), .sl 11 (Core.cellsL xs), .sl 10 (vs.map Val.cells)]
def Core.cellsL : List Core → List (List AV)
  | [] => []
  | t :: r => t.cells :: Core.cellsL r
end
theorem Core.cellsL_map : ∀ l : List Core, Core.cellsL l = l.map Core.cells
  | [] => rfl
  | t :: r => by rw [Core.cellsL, Core.cellsL_map r]; rfl
theorem Core.cells_eq (t : Core) : t.cells = [.lit (.int .i64 t.k), .lit (.int .i64 t.n), .lit (.int .i64 t.m), .lit (.bool t.inn), .lit (.string t.name), .lit (.string t.df), .lit (.int .i64 t.nd), .sl 5 (t.types.map Ty.cells), .sl 1 (t.labels.map strC), .sl 11 (t.kids.map Core.cells), .sl 10 (t.vals.map Val.cells)] := by
  cases t; rw [Core.cells, Core.cellsL_map]

@[simp] theorem Val.cells_len (t : Val) : t.cells.length = 10 := by rw [Val.cells_eq]; rfl
@[simp] theorem Val.c0 (t : Val) : t.cells.getD 0 .dead = .lit (.int .i64 t.k) := by rw [Val.cells_eq]; rfl
@[simp] theorem Val.c1 (t : Val) : t.cells.getD 1 .dead = .lit (.int .i64 t.n) := by rw [Val.cells_eq]; rfl
@[simp] theorem Val.c2 (t : Val) : t.cells.getD 2 .dead = .lit (.int .i64 t.m) := by rw [Val.cells_eq]; rfl
@[simp] theorem Val.c3 (t : Val) : t.cells.getD 3 .dead = .lit (.bool t.inn) := by rw [Val.cells_eq]; rfl
@[simp] theorem Val.c4 (t : Val) : t.cells.getD 4 .dead = .lit (.string t.s) := by rw [Val.cells_eq]; rfl
@[simp] theorem Val.c5 (t : Val) : t.cells.getD 5 .dead = .lit (.string t.df) := by rw [Val.cells_eq]; rfl
@[simp] theorem Val.c6 (t : Val) : t.cells.getD 6 .dead = .lit (.int .i64 t.nd) := by rw [Val.cells_eq]; rfl
@[simp] theorem Val.c7 (t : Val) : t.cells.getD 7 .dead = .sl 5 (t.types.map Ty.cells) := by rw [Val.cells_eq]; rfl
@[simp] theorem Val.c8 (t : Val) : t.cells.getD 8 .dead = .sl 1 (t.labels.map strC) := by rw [Val.cells_eq]; rfl
@[simp] theorem Val.c9 (t : Val) : t.cells.getD 9 .dead = .sl 10 (t.kids.map Val.cells) := by rw [Val.cells_eq]; rfl
theorem Val.re (t : Val) : [t.cells.getD 0 .dead, t.cells.getD 1 .dead, t.cells.getD 2 .dead, t.cells.getD 3 .dead, t.cells.getD 4 .dead, t.cells.getD 5 .dead, t.cells.getD 6 .dead, t.cells.getD 7 .dead, t.cells.getD 8 .dead, t.cells.getD 9 .dead] = t.cells := by
  rw [Val.cells_eq]; rfl
@[simp] theorem Core.cells_len (t : Core) : t.cells.length = 11 := by rw [Core.cells_eq]; rfl
@[simp] theorem Core.c0 (t : Core) : t.cells.getD 0 .dead = .lit (.int .i64 t.k) := by rw [Core.cells_eq]; rfl
@[simp] theorem Core.c1 (t : Core) : t.cells.getD 1 .dead = .lit (.int .i64 t.n) := by rw [Core.cells_eq]; rfl
@[simp] theorem Core.c2 (t : Core) : t.cells.getD 2 .dead = .lit (.int .i64 t.m) := by rw [Core.cells_eq]; rfl
@[simp] theorem Core.c3 (t : Core) : t.cells.getD 3 .dead = .lit (.bool t.inn) := by rw [Core.cells_eq]; rfl
@[simp] theorem Core.c4 (t : Core) : t.cells.getD 4 .dead = .lit (.string t.name) := by rw [Core.cells_eq]; rfl
@[simp] theorem Core.c5 (t : Core) : t.cells.getD 5 .dead = .lit (.string t.df) := by rw [Core.cells_eq]; rfl
@[simp] theorem Core.c6 (t : Core) : t.cells.getD 6 .dead = .lit (.int .i64 t.nd) := by rw [Core.cells_eq]; rfl
@[simp] theorem Core.c7 (t : Core) : t.cells.getD 7 .dead = .sl 5 (t.types.map Ty.cells) := by rw [Core.cells_eq]; rfl
@[simp] theorem Core.c8 (t : Core) : t.cells.getD 8 .dead = .sl 1 (t.labels.map strC) := by rw [Core.cells_eq]; rfl
@[simp] theorem Core.c9 (t : Core) : t.cells.getD 9 .dead = .sl 11 (t.kids.map Core.cells) := by rw [Core.cells_eq]; rfl
@[simp] theorem Core.c10 (t : Core) : t.cells.getD 10 .dead = .sl 10 (t.vals.map Val.cells) := by rw [Core.cells_eq]; rfl
theorem Core.re (t : Core) : [t.cells.getD 0 .dead, t.cells.getD 1 .dead, t.cells.getD 2 .dead, t.cells.getD 3 .dead, t.cells.getD 4 .dead, t.cells.getD 5 .dead, t.cells.getD 6 .dead, t.cells.getD 7 .dead, t.cells.getD 8 .dead, t.cells.getD 9 .dead, t.cells.getD 10 .dead] = t.cells := by
  rw [Core.cells_eq]; rfl

inductive Val.Ok : Val → Prop
  | mk {t : Val} (hs : t.s.size ≤ maxLen) (hd : t.df.size ≤ maxLen) (htl : t.types.length ≤ maxLen) (hts : ∀ a ∈ t.types, a.Ok) (hl : t.labels.length ≤ maxLen) (hls : ∀ s ∈ t.labels, s.size ≤ maxLen) (ha : t.kids.length ≤ maxLen) (has : ∀ a ∈ t.kids, a.Ok) : t.Ok
inductive Core.Ok : Core → Prop
  | mk {t : Core} (hk : (Lit.int .i64 t.k).wf = true) (hn : (Lit.int .i64 t.n).wf = true) (hm : (Lit.int .i64 t.m).wf = true) (he : (Lit.int .i64 t.nd).wf = true) (hs : t.name.size ≤ maxLen) (hd : t.df.size ≤ maxLen) (htl : t.types.length ≤ maxLen) (hts : ∀ a ∈ t.types, a.Ok) (hl : t.labels.length ≤ maxLen) (hls : ∀ s ∈ t.labels, s.size ≤ maxLen) (ha : t.kids.length ≤ maxLen) (has : ∀ a ∈ t.kids, a.Ok) (hv : t.vals.length ≤ maxLen) (hvs : ∀ a ∈ t.vals, a.Ok) : t.Ok
theorem Val.Ok.len {t : Val} (h : t.Ok) : t.kids.length ≤ maxLen := by cases h with | mk _ _ _ _ _ _ ha _ => exact ha
theorem Val.Ok.kid {t : Val} (h : t.Ok) {a : Val} (ha : a ∈ t.kids) : a.Ok := by cases h with | mk _ _ _ _ _ _ _ has => exact has a ha
theorem Val.Ok.tlen {t : Val} (h : t.Ok) : t.types.length ≤ maxLen := by cases h with | mk _ _ ha _ _ _ _ _ => exact ha
theorem Val.Ok.ty {t : Val} (h : t.Ok) {a : Ty} (ha : a ∈ t.types) : a.Ok := by cases h with | mk _ _ _ has _ _ _ _ => exact has a ha
theorem Val.Ok.lab {t : Val} (h : t.Ok) : t.labels.length ≤ maxLen := by cases h with | mk _ _ _ _ ha _ _ _ => exact ha
theorem Val.Ok.str {t : Val} (h : t.Ok) : t.s.size ≤ maxLen := by cases h with | mk hs _ _ _ _ _ _ _ => exact hs
theorem Val.Ok.def {t : Val} (h : t.Ok) : t.df.size ≤ maxLen := by cases h with | mk _ hs _ _ _ _ _ _ => exact hs
theorem Core.Ok.len {t : Core} (h : t.Ok) : t.kids.length ≤ maxLen := by cases h with | mk _ _ _ _ _ _ _ _ _ _ ha _ _ _ => exact ha
theorem Core.Ok.kid {t : Core} (h : t.Ok) {a : Core} (ha : a ∈ t.kids) : a.Ok := by cases h with | mk _ _ _ _ _ _ _ _ _ _ _ has _ _ => exact has a ha
theorem Core.Ok.tlen {t : Core} (h : t.Ok) : t.types.length ≤ maxLen := by cases h with | mk _ _ _ _ _ _ ha _ _ _ _ _ _ _ => exact ha
theorem Core.Ok.ty {t : Core} (h : t.Ok) {a : Ty} (ha : a ∈ t.types) : a.Ok := by cases h with | mk _ _ _ _ _ _ _ has _ _ _ _ _ _ => exact has a ha
theorem Core.Ok.lab {t : Core} (h : t.Ok) : t.labels.length ≤ maxLen := by cases h with | mk _ _ _ _ _ _ _ _ ha _ _ _ _ _ => exact ha
theorem Core.Ok.str {t : Core} (h : t.Ok) : t.name.size ≤ maxLen := by cases h with | mk _ _ _ _ hs _ _ _ _ _ _ _ _ _ => exact hs
theorem Core.Ok.def {t : Core} (h : t.Ok) : t.df.size ≤ maxLen := by cases h with | mk _ _ _ _ _ hs _ _ _ _ _ _ _ _ => exact hs
theorem Val.size_kid {t : Val} {i : Nat} (hi : i < t.kids.length) : SizeOf.sizeOf t.kids[i] < SizeOf.sizeOf t := by
  have := List.sizeOf_lt_of_mem (List.getElem_mem hi)
  cases t; simp only [Val.mk.sizeOf_spec] at *; omega
theorem Core.size_kid {t : Core} {i : Nat} (hi : i < t.kids.length) : SizeOf.sizeOf t.kids[i] < SizeOf.sizeOf t := by
  have := List.sizeOf_lt_of_mem (List.getElem_mem hi)
  cases t; simp only [Core.mk.sizeOf_spec] at *; omega

/- strings: the same bytes, the same string -/
theorem toList_loop (s : ByteArray) : ∀ (m i : Nat) (r : List UInt8), s.size ≤ m + i → ByteArray.toList.loop s i r = r.reverse ++ s.data.toList.drop i
  | 0, i, r, h => by
    unfold ByteArray.toList.loop
    rw [if_neg (by omega), List.drop_of_length_le (show s.size ≤ i by omega), List.append_nil]
  | m + 1, i, r, h => by
    unfold ByteArray.toList.loop
    split
    · rename_i hi
      have hi' : i < s.data.toList.length := hi
      have e : s.get! i = s.data.toList[i]'hi' := by
        show s.data[i]! = _
        rw [getElem!_pos s.data i hi]; rfl
      rw [toList_loop s m (i + 1) _ (by omega), List.drop_eq_getElem_cons hi', e, List.reverse_cons, List.append_assoc]; rfl
    · rename_i hi
      rw [List.drop_of_length_le (show s.size ≤ i by omega), List.append_nil]
theorem toList_data (s : ByteArray) : s.toList = s.data.toList := by
  unfold ByteArray.toList
  rw [toList_loop s s.size 0 [] (by omega)]; rfl
theorem strEq_iff {a b : ByteArray} : strEq a b = true ↔ a = b := by
  unfold strEq
  rw [beq_iff_eq, toList_data, toList_data]
  constructor
  · intro h
    cases a; cases b
    rename_i x y
    cases x; cases y
    have h : (_ : List UInt8) = _ := h
    exact congrArg (fun l => ByteArray.mk (Array.mk l)) h
  · rintro rfl; rfl

/- the same types -/
theorem sameS_iff : ∀ (l m : List ByteArray), (decide (l.length = m.length) && sameS l m) = true ↔ l = m
  | [], [] => by simp [sameS]
  | [], y :: m => by simp
  | x :: l, [] => by simp
  | x :: l, y :: m => by
    have := sameS_iff l m
    rw [Bool.and_eq_true, decide_eq_true_iff] at this
    rw [Bool.and_eq_true, decide_eq_true_iff, sameS, Bool.and_eq_true, strEq_iff, List.cons.injEq, ← this]
    simp only [List.length_cons, Nat.add_right_cancel_iff]
    exact ⟨fun ⟨a, b, c⟩ => ⟨b, a, c⟩, fun ⟨b, a, c⟩ => ⟨a, b, c⟩⟩
mutual
theorem Ty.same_iff : ∀ t u : Ty, t.same u = true ↔ t = u
  | ⟨k, n, s, ls, xs⟩, ⟨k', n', s', ls', xs'⟩ => by
    have h1 := Ty.sameL_iff xs xs'
    have h2 := sameS_iff ls ls'
    rw [Ty.same]
    simp only [Bool.and_eq_true, decide_eq_true_iff, strEq_iff, Ty.mk.injEq, Bool.not_eq_true', bne_eq_false_iff_eq] at *
    rw [← h1, ← h2]
    constructor
    · rintro ⟨⟨⟨⟨⟨a, b⟩, c⟩, d⟩, e⟩, f⟩; exact ⟨a, b, c, d, e, f⟩
    · rintro ⟨a, b, c, d, e, f⟩; exact ⟨⟨⟨⟨⟨a, b⟩, c⟩, d⟩, e⟩, f⟩
theorem Ty.sameL_iff : ∀ l m : List Ty, (decide (l.length = m.length) && Ty.sameL l m) = true ↔ l = m
  | [], [] => by simp [Ty.sameL]
  | [], y :: m => by simp
  | x :: l, [] => by simp
  | x :: l, y :: m => by
    have h1 := Ty.same_iff x y
    have h2 := Ty.sameL_iff l m
    rw [Bool.and_eq_true, decide_eq_true_iff] at h2
    rw [Bool.and_eq_true, decide_eq_true_iff, Ty.sameL, Bool.and_eq_true, h1, List.cons.injEq, ← h2]
    simp only [List.length_cons, Nat.add_right_cancel_iff]
    exact ⟨fun ⟨a, b, c⟩ => ⟨b, a, c⟩, fun ⟨b, a, c⟩ => ⟨a, b, c⟩⟩
end

/-- Are they the same: the law's question. -/
noncomputable def eqd {α : Type} (a b : α) : Bool := @decide (a = b) (Classical.propDecidable _)
theorem eqd_iff {α : Type} {a b : α} : eqd a b = true ↔ a = b := by unfold eqd; exact @decide_eq_true_iff _ (Classical.propDecidable _)
theorem eqd_self {α : Type} (a : α) : eqd a a = true := eqd_iff.2 rfl
theorem eqd_f {α : Type} {a b : α} (h : a ≠ b) : eqd a b = false := by
  cases e : eqd a b with
  | false => rfl
  | true => exact absurd (eqd_iff.1 e) h
theorem Ty.same_eqd (t u : Ty) : t.same u = eqd t u := by rw [Bool.eq_iff_iff, Ty.same_iff, eqd_iff]
theorem int_eqd (a b : Int) : (a == b) = eqd a b := by rw [Bool.eq_iff_iff, beq_iff_eq, eqd_iff]
theorem Val.eqd_eq (a b : Val) : eqd a b = (eqd a.k b.k && (eqd a.n b.n && (eqd a.m b.m && (eqd a.inn b.inn && (eqd a.s b.s && ((eqd a.df b.df && eqd a.nd b.nd) && (eqd a.types b.types && (eqd a.labels b.labels && eqd a.kids b.kids)))))))) := by
  rw [Bool.eq_iff_iff]
  simp only [Bool.and_eq_true, eqd_iff]
  cases a; cases b
  simp only [Val.mk.injEq]
  constructor
  · rintro ⟨a, b, c, d, e, f, g, h, i, j⟩; exact ⟨a, b, c, d, e, ⟨f, g⟩, h, i, j⟩
  · rintro ⟨a, b, c, d, e, ⟨f, g⟩, h, i, j⟩; exact ⟨a, b, c, d, e, f, g, h, i, j⟩
theorem Core.eqd_eq (a b : Core) : eqd a b = (eqd a.k b.k && (eqd a.n b.n && (eqd a.m b.m && (eqd a.inn b.inn && (eqd a.name b.name && ((eqd a.df b.df && eqd a.nd b.nd) && (eqd a.types b.types && (eqd a.labels b.labels && (eqd a.vals b.vals && eqd a.kids b.kids))))))))) := by
  rw [Bool.eq_iff_iff]
  simp only [Bool.and_eq_true, eqd_iff]
  cases a; cases b
  simp only [Core.mk.injEq]
  constructor
  · rintro ⟨a, b, c, d, e, f, g, h, i, j, k⟩; exact ⟨a, b, c, d, e, ⟨f, g⟩, h, i, k, j⟩
  · rintro ⟨a, b, c, d, e, ⟨f, g⟩, h, i, j, k⟩; exact ⟨a, b, c, d, e, f, g, h, i, k, j⟩
end Go.Sh.T

namespace Go.Sh.T
open Go Go.Sh
set_option linter.unusedSimpArgs false
set_option linter.unusedVariables false
set_option maxRecDepth 100000
theorem Ty.re (t : Ty) : [t.cells.getD 0 .dead, t.cells.getD 1 .dead, t.cells.getD 2 .dead, t.cells.getD 3 .dead, t.cells.getD 4 .dead] = t.cells := Ty.refold t
theorem int_ne (a b : Int) : (a != b) = !(eqd a b) := by rw [← int_eqd]; rfl
theorem same23 (t u : Ty) (h : Heap) (ok : t.Ok) : evw E 61 [.agg t.cells, .agg u.cells] h = some (.ret (.lit (.bool (eqd t u))), h) := by
  rw [same_spec t u h ok, Ty.same_eqd]
/- ty.Same -/
theorem Ty.eqd_eq (a b : Ty) : eqd a b = (eqd a.k b.k && (eqd a.n b.n && (eqd a.name b.name && (eqd a.labels b.labels && eqd a.args b.args)))) := by
  rw [Bool.eq_iff_iff]
  simp only [Bool.and_eq_true, eqd_iff]
  cases a; cases b
  simp only [Ty.mk.injEq]
/- values -/
/- terms -/
end Go.Sh.T

namespace Go.Sh.T
open Go Go.Sh
set_option linter.unusedSimpArgs false
set_option linter.unusedVariables false
set_option maxRecDepth 100000

/- the program's names are the document's -/
theorem low_hi {c : Int} (h : 128 ≤ c) : lowB c = false := by
  unfold lowB; rw [show decide (c ≤ 122) = false from by simp; omega]; cases decide (c ≥ 97) <;> rfl
theorem up_hi {c : Int} (h : 128 ≤ c) : upB c = false := by
  unfold upB; rw [show decide (c ≤ 90) = false from by simp; omega]; cases decide (c ≥ 65) <;> rfl
theorem dig_hi {c : Int} (h : 128 ≤ c) : digB c = false := by
  unfold digB; rw [show decide (c ≤ 57) = false from by simp; omega]; cases decide (c ≥ 48) <;> rfl

theorem get_byte (s : ByteArray) (pos : Nat) (h : pos < s.size) (h' : pos < (bytes s).length) : s[pos]'h = (bytes s)[pos]'h' := rfl

theorem decode_big (s : ByteArray) (pos : Nat) (h : pos < s.size) (hb : 128 ≤ (s[pos]'h).toNat) : 128 ≤ (Utf8.decode s pos).1 := by
  have e : s.get! (pos + 0) = s[pos]'h := by
    show s.get! pos = _
    simp [ByteArray.get!, getElem!_pos, h]
    rfl
  simp only [Utf8.decode, e]
  rw [if_neg (by omega)]
  unfold Utf8.runeError
  repeat' split
  all_goals rename_i hc
  all_goals simp only [Bool.and_eq_true, decide_eq_true_eq, ge_iff_le] at *
  all_goals omega

theorem go_kind (s : ByteArray) : ∀ (m pos : Nat) (k : Int), 1 ≤ pos → s.size < m + pos → pos ≤ s.size → (k = 1 ∨ k = 2) → P85.goP s m pos k = kindL k ((bytes s).drop pos)
  | 0, pos, k, _, h1, h2, _ => by omega
  | m + 1, pos, k, h0, h1, h2, hk => by
    unfold P85.goP
    by_cases hp : pos < s.size
    · have hp' : pos < (bytes s).length := by rw [bytes_len]; exact hp
      rw [dif_pos hp, List.drop_eq_getElem_cons hp', kindL]
      have hz : (pos == 0) = false := by simp; omega
      by_cases hb : (s[pos]'hp).toNat < 128
      · rw [decode_ascii s pos hp hb, ← get_byte s pos hp hp']
        have ih := fun k hk => go_kind s m (pos + 1) k (by omega) (by omega) (by omega) hk
        simp only [hz]
        unfold P85.stepP badR
        rcases hk with e | e
        · subst e
          have := ih 1 (.inl rfl)
          cases lowB ((s[pos]'hp).toNat : Int) <;> cases upB ((s[pos]'hp).toNat : Int) <;> cases digB ((s[pos]'hp).toNat : Int) <;> first | rfl | exact this
        · subst e
          have := ih 2 (.inr rfl)
          cases lowB ((s[pos]'hp).toNat : Int) <;> cases upB ((s[pos]'hp).toNat : Int) <;> cases digB ((s[pos]'hp).toNat : Int) <;> first | rfl | exact this
      · have hd := decode_big s pos hp (by omega)
        have hq : (128 : Int) ≤ ((bytes s)[pos]'hp').toNat := by rw [← get_byte s pos hp hp']; omega
        unfold P85.stepP badR
        rw [low_hi (by omega), up_hi (by omega), dig_hi (by omega), low_hi hq, up_hi hq, dig_hi hq, hz]
        cases k != 0 <;> cases k == 2 <;> rfl
    · rw [dif_neg hp, List.drop_of_length_le (by rw [bytes_len]; omega), kindL]

theorem kindL_zero : ∀ l : List UInt8, kindL 0 l = 0
  | [] => rfl
  | c :: r => by rw [kindL, kindL_zero r]; cases badR 0 c.toNat <;> rfl

/-- What the document tells by letters alone. -/
def lettersR (s : ByteArray) : Int := match bytes s with
  | [] => 0
  | c :: r => bif decide (r.length ≥ 8) then 0 else kindL (kind0 c.toNat) r
theorem kindR_eq (s : ByteArray) : kindR s = bif keptR s != 0 then keptR s else lettersR s := rfl

theorem shape_letters (s : ByteArray) : P85.shapeP s = lettersR s := by
  unfold P85.shapeP lettersR
  have hl := bytes_len s
  cases hb : bytes s with
  | nil =>
    rw [hb] at hl
    have h0 : s.size = 0 := by simpa using hl.symm
    rw [show decide ((s.size : Int) > 8) = false from by simp; omega, cond_false]
    unfold P85.goP
    rw [dif_neg (by omega)]
  | cons c r =>
    rw [hb, List.length_cons] at hl
    show _ = cond (decide (r.length ≥ 8)) 0 (kindL (kind0 c.toNat) r)
    by_cases h8 : r.length ≥ 8
    · rw [show decide ((s.size : Int) > 8) = true from by simp; omega, show decide (r.length ≥ 8) = true from by simpa using h8]; rfl
    · rw [show decide ((s.size : Int) > 8) = false from by simp; omega, show decide (r.length ≥ 8) = false from by simpa using h8, cond_false]
      unfold P85.goP
      have hp : 0 < s.size := by omega
      rw [dif_pos hp]
      have hp' : 0 < (bytes s).length := by rw [hb]; simp
      have hg : s[0]'hp = c := by rw [get_byte s 0 hp hp']; simp [hb]
      have hdrop : (bytes s).drop 1 = r := by rw [hb]; rfl
      have ih := fun k hk => go_kind s 9 1 k (by omega) (by omega) (by omega) hk
      rw [hdrop] at ih
      by_cases hbb : (s[0]'hp).toNat < 128
      · rw [decode_ascii s 0 hp hbb, hg]
        unfold P85.stepP kind0
        have i1 := ih 1 (.inl rfl)
        have i2 := ih 2 (.inr rfl)
        have hlu : ¬ (lowB (c.toNat : Int) = true ∧ upB (c.toNat : Int) = true) := by
          intro ⟨h1, h2⟩
          unfold lowB at h1; unfold upB at h2
          simp at h1 h2; omega
        have hz := kindL_zero r
        cases hlo : lowB (c.toNat : Int) <;> cases hup : upB (c.toNat : Int)
        · exact hz.symm
        · exact i2
        · exact i1
        · exact absurd ⟨hlo, hup⟩ hlu
      · have hd := decode_big s 0 hp (by omega)
        have hq : (128 : Int) ≤ c.toNat := by rw [← hg]; omega
        unfold P85.stepP kind0
        rw [low_hi (by omega), up_hi (by omega), low_hi hq, up_hi hq]
        exact (kindL_zero r).symm

theorem shape_spec (s : ByteArray) (h : Heap) : evw E 85 [.lit (.string s)] h = some (.ret (.lit (.int .i64 (lettersR s))), h) := by
  rw [← shape_letters]
  exact evw_prim primsC (p := p85) (by kernel_rfl) rfl

def keptP (s : ByteArray) (x : Int) : Int := bif keys3.any (fun k => strEq s k) then 3 else bif keys4.any (fun k => strEq s k) then 4 else x
theorem strEq_comm (a b : ByteArray) : strEq a b = strEq b a := Bool.eq_iff_iff.2 ⟨fun h => by unfold strEq at *; rw [beq_iff_eq] at *; exact h.symm, fun h => by unfold strEq at *; rw [beq_iff_eq] at *; exact h.symm⟩
theorem keptP_eq (s : ByteArray) : keptP s (lettersR s) = kindR s := by
  have e : ∀ l : List ByteArray, (l.any fun k => strEq s k) = l.any fun k => strEq k s := fun l => by congr 1; funext k; exact strEq_comm s k
  rw [kindR_eq]; unfold keptP keptR
  rw [e, e]
  cases keys3.any (fun k => strEq k s) <;> cases keys4.any (fun k => strEq k s) <;> rfl

theorem eqS (s k : ByteArray) : binAV E .eql 9 (.lit (.string s)) (.lit (.string k)) = some (.lit (.bool (strEq s k))) := (Eq.refl _).trans rfl
theorem pkind_spec (s : ByteArray) (h : Heap) : evw E 69 [.lit (.string s)] h = some (.ret (.lit (.int .i64 (kindR s))), h) := by
  rw [← keptP_eq]
  refine evw_run primsC 0 rfl rfl rfl ?_
  rw [nf69, shape_spec, onOut_ret]
  unfold keptP keys3 keys4
  simp only [List.any_cons, List.any_nil, Bool.or_false]
  generalize lettersR s = x
  rw [eqS s ⟨#[108, 101, 116]⟩, bind_some', boolB, bind_some']
  cases strEq s ⟨#[108, 101, 116]⟩ with
  | true => rfl
  | false =>
  rw [condF]
  rw [eqS s ⟨#[105, 110]⟩, bind_some', boolB, bind_some']
  cases strEq s ⟨#[105, 110]⟩ with
  | true => rfl
  | false =>
  rw [condF]
  rw [eqS s ⟨#[105, 102]⟩, bind_some', boolB, bind_some']
  cases strEq s ⟨#[105, 102]⟩ with
  | true => rfl
  | false =>
  rw [condF]
  rw [eqS s ⟨#[116, 104, 101, 110]⟩, bind_some', boolB, bind_some']
  cases strEq s ⟨#[116, 104, 101, 110]⟩ with
  | true => rfl
  | false =>
  rw [condF]
  rw [eqS s ⟨#[101, 108, 115, 101]⟩, bind_some', boolB, bind_some']
  cases strEq s ⟨#[101, 108, 115, 101]⟩ with
  | true => rfl
  | false =>
  rw [condF]
  rw [eqS s ⟨#[102, 110]⟩, bind_some', boolB, bind_some']
  cases strEq s ⟨#[102, 110]⟩ with
  | true => rfl
  | false =>
  rw [condF]
  rw [eqS s ⟨#[99, 97, 108, 108]⟩, bind_some', boolB, bind_some']
  cases strEq s ⟨#[99, 97, 108, 108]⟩ with
  | true => rfl
  | false =>
  rw [condF]
  rw [eqS s ⟨#[100, 101, 102]⟩, bind_some', boolB, bind_some']
  cases strEq s ⟨#[100, 101, 102]⟩ with
  | true => rfl
  | false =>
  rw [condF]
  rw [eqS s ⟨#[116, 114, 117, 101]⟩, bind_some', boolB, bind_some']
  cases strEq s ⟨#[116, 114, 117, 101]⟩ with
  | true => rfl
  | false =>
  rw [condF]
  rw [eqS s ⟨#[102, 97, 108, 115, 101]⟩, bind_some', boolB, bind_some']
  cases strEq s ⟨#[102, 97, 108, 115, 101]⟩ with
  | true => rfl
  | false =>
  rw [condF]
  rw [eqS s ⟨#[73, 110, 116]⟩, bind_some', boolB, bind_some']
  cases strEq s ⟨#[73, 110, 116]⟩ with
  | true => rfl
  | false =>
  rw [condF]
  rw [eqS s ⟨#[66, 111, 111, 108]⟩, bind_some', boolB, bind_some']
  cases strEq s ⟨#[66, 111, 111, 108]⟩ with
  | true => rfl
  | false =>
  rw [condF]
  rw [eqS s ⟨#[83, 116, 114, 105, 110, 103]⟩, bind_some', boolB, bind_some']
  cases strEq s ⟨#[83, 116, 114, 105, 110, 103]⟩ with
  | true => rfl
  | false =>
  rw [condF]
  rw [eqS s ⟨#[84, 111, 112]⟩, bind_some', boolB, bind_some']
  cases strEq s ⟨#[84, 111, 112]⟩ with
  | true => rfl
  | false =>
  rw [condF]
  rfl

theorem pvar_spec (s : ByteArray) (h : Heap) : evw E 43 [.lit (.string s)] h = some (.ret (.lit (.bool (kindR s == 2))), h) := by
  refine evw_run primsC 0 rfl rfl rfl ?_
  rw [nf43, pkind_spec, onOut_ret, bin_int, eqlI, bind_some']
theorem pfine_spec (s : ByteArray) (h : Heap) : evw E 70 [.lit (.string s)] h = some (.ret (.lit (.bool (kindR s == 1))), h) := by
  refine evw_run primsC 0 rfl rfl rfl ?_
  rw [nf70, pkind_spec, onOut_ret, bin_int, eqlI, bind_some']

theorem prising_spec (l : List ByteArray) (hl : l.length ≤ maxLen) (h : Heap) : evw E 44 [.sl 1 (l.map strC)] h = some (.ret (.lit (.bool (risingR l none))), h) := by
  have hl : l.length ≤ 9223372036854775807 := hl
  have loop : ∀ (q i : Nat), i ≤ l.length → l.length < q + i → Lp44_0 (evw E) (l.length + 1) h q h (.sl 1 (l.map strC)) (.sl 1 (l.map strC)) (.lit (.int .i64 (l.length : Int))) (.lit (.int .i64 (i : Int))) = some (.ret (.lit (.bool (risingR (l.drop i) (if i = 0 then none else l[i - 1]?)))), h) := by
    intro q
    induction q with
    | zero => intro i h1 h2; omega
    | succ q ih =>
      intro i h1 h2
      rw [Lp44_0_succ, bin_int, lssI, bind_some', boolB, bind_some']
      by_cases hi : i < l.length
      · have hn := ih (i + 1) hi (by omega)
        rw [if_neg (by omega), Nat.add_sub_cancel, List.getElem?_eq_getElem hi] at hn
        rw [ltT hi, condT, indexA_map _ _ _ _ hi, bind_some', part_str, bind_some', pfine_spec, onOut_ret, notB, bind_some', boolB, bind_some', List.drop_eq_getElem_cons hi, risingR]
        cases e : kindR l[i] == 1 with
        | false => rfl
        | true =>
          rw [Bool.not_true, condF, bin_int, gtrI, bind_some', boolB, bind_some', Bool.true_and]
          by_cases h0 : i = 0
          · subst h0
            rw [show decide (((0 : Nat) : Int) > 0) = false from rfl, condF, bin_int, addI, bind_some', incI (by omega), if_pos rfl, gapR, Bool.true_and]
            exact hn
          · have hi1 : i - 1 < l.length := by omega
            rw [if_neg h0, List.getElem?_eq_getElem hi1, show decide ((i : Int) > 0) = true from by simp; omega, condT, bin_int, subI, bind_some', show sub64 (i : Int) 1 = ((i - 1 : Nat) : Int) from by unfold sub64; rw [IntWalk.i64_in _ (by omega)]; omega]
            rw [indexA_map _ _ _ _ hi1, bind_some', part_str, bind_some', bin_str, show strBin .geq l[i - 1] l[i] = some (.lit (.bool (!Op.bytesLess l[i - 1].toList l[i].toList))) from rfl, bind_some', boolB, bind_some']
            unfold gapR strLt
            simp only
            cases e2 : Op.bytesLess l[i - 1].toList l[i].toList with
            | false => rfl
            | true => rw [Bool.not_true, condF, Bool.true_and, bin_int, addI, bind_some', incI (by omega)]; exact hn
      · rw [ltF hi, condF, show l.drop i = [] from List.drop_eq_nil_of_le (by omega)]
        rfl
  refine evw_run primsC (l.length + 1) rfl rfl rfl ?_
  rw [nf44, lenA23, bind_some', List.length_map]
  have := loop (l.length + 1) 0 (Nat.zero_le _) (by omega)
  rw [if_pos rfl, List.drop_zero] at this
  exact this
end Go.Sh.T

namespace Go.Sh.T
open Go Go.Sh
set_option linter.unusedSimpArgs false
set_option linter.unusedVariables false
set_option maxRecDepth 100000

theorem applyS (F : Nat → List AV → Heap → R) (f : Nat) (caps args : List AV) (h : Heap) : applyV F (.fn f [] caps) args h = F f ([] ++ args ++ caps) h := (Eq.refl _).trans rfl
theorem any_spec (P : Ty → Bool) (fv : AV) (H : Heap) (l : List Ty) (hl : l.length ≤ maxLen) (hc : ∀ a ∈ l, applyV (evw E) fv [.agg a.cells] H = some (.ret (.lit (.bool (P a))), H)) : evw E 41 [.sl 5 (l.map Ty.cells), fv] H = some (.ret (.lit (.bool (l.any P))), H) := by
  have hl : l.length ≤ 9223372036854775807 := hl
  have loop : ∀ (m i : Nat), i ≤ l.length → l.length < m + i → ∃ r : Int, Lp68_0 (evw E) (l.length + 1) H m H (.sl 5 (l.map Ty.cells)) fv (.lit (.int .i64 (l.length : Int))) (.lit (.int .i64 (i : Int))) = some (.ret (.lit (.int .i64 r)), H) ∧ decide (r ≥ 0) = (l.drop i).any P := by
    intro m
    induction m with
    | zero => intro i h1 h2; omega
    | succ m ih =>
      intro i h1 h2
      rw [Lp68_0_succ, bin_int, lssI, bind_some', boolB, bind_some']
      by_cases hi : i < l.length
      · rw [ltT hi, condT, indexA_map _ _ _ _ hi, bind_some', partA_full (Ty.cells_len _), bind_some', hc _ (List.getElem_mem hi), onOut_ret, boolB, bind_some', List.drop_eq_getElem_cons hi, List.any_cons]
        cases e : P l[i] with
        | true => exact ⟨i, by rw [condT], by rw [Bool.true_or]; simp⟩
        | false =>
          rw [condF, bin_int, addI, bind_some', incI (by omega), Bool.false_or]
          exact ih (i + 1) hi (by omega)
      · exact ⟨-1, by rw [ltF hi, condF], by rw [List.drop_of_length_le (by omega)]; rfl⟩
  obtain ⟨r, h1, h2⟩ := loop (l.length + 1) 0 (Nat.zero_le _) (by omega)
  rw [List.drop_zero] at h2
  have h166 : evw E 68 [.sl 5 (l.map Ty.cells), fv] H = some (.ret (.lit (.int .i64 r)), H) := by
    refine evw_run primsC (l.length + 1) rfl rfl rfl ?_
    rw [nf68, lenA24, bind_some', List.length_map]
    exact h1
  refine evw_run primsC 0 rfl rfl rfl ?_
  rw [nf41, h166, onOut_ret, bin_int, geqI, bind_some', h2]

end Go.Sh.T

namespace Go.Sh.T
open Go Go.Sh
set_option linter.unusedSimpArgs false
set_option linter.unusedVariables false
set_option maxRecDepth 100000

theorem andB (a b : Bool) (h : Heap) : cond a (some (Out.ret (.lit (.bool b)), h)) (some (.ret (.lit (.bool false)), h)) = some (.ret (.lit (.bool (a && b))), h) := by cases a <;> rfl
def bareR (k n : Int) (s : ByteArray) (m : Nat) : Bool := (k == 6 || emptyS s) && ((k == 9 || n == 0) && (k == 8 || (m : Int) == 0))
theorem bin_strE (x y : ByteArray) : binAV E .eql 9 (.lit (.string x)) (.lit (.string y)) = some (.lit (.bool (x.toList == y.toList))) := (Eq.refl _).trans rfl

theorem bare_spec (t : Ty) (h : Heap) : evw E 40 [.agg t.cells] h = some (.ret (.lit (.bool (bareR t.k t.n t.name t.labels.length))), h) := by
  refine evw_run primsC 0 rfl rfl rfl ?_
  rw [nf40, aggS, bind_some', Ty.cells_len, show Nat.beq 5 5 = true from rfl, condT, Ty.c0, Ty.c1, Ty.c2, Ty.c3]
  simp only [bin_int, eqlI, bind_some', boolB, bin_strE, lenA23, List.length_map]
  unfold bareR emptyS
  cases t.k == 6 <;> cases t.k == 9 <;> cases t.k == 8 <;> cases t.n == 0 <;> cases t.name.toList == ByteArray.empty.toList <;> rfl

theorem pright_tail (k n : Int) (s : ByteArray) (ls : List ByteArray) (xs : List Ty) (hl : ls.length ≤ maxLen) (h : Heap) (hb : bareR k n s ls.length = true) {x : R}
    (hx : x = evw E 24 [.agg (Ty.mk k n s ls xs).cells] h) (h135 : evw E 41 [.sl 5 (xs.map Ty.cells), .fn 42 [] []] h = some (.ret (.lit (.bool false)), h)) : x = some (.ret (.lit (.bool (nodeR k n s ls xs.length))), h) := by
  rw [hx]
  refine evw_run primsC 0 rfl rfl rfl ?_
  rw [nf24, aggS, bind_some', Ty.cells_len, show Nat.beq 5 5 = true from rfl, condT, Ty.refold, bare_spec, onOut_ret, notB, bind_some', boolB, bind_some', show bareR (Ty.mk k n s ls xs).k (Ty.mk k n s ls xs).n (Ty.mk k n s ls xs).name (Ty.mk k n s ls xs).labels.length = true from hb, Bool.not_true, condF, Ty.c0, Ty.c1, Ty.c2, Ty.c3, Ty.c4, show (Ty.mk k n s ls xs).args = xs from rfl, h135, onOut_ret, boolB, bind_some', condF]
  have hr := prising_spec ls hl h
  have hbn : nodeR k n s ls xs.length = (bif decide (k ≥ 1) && decide (k ≤ 5) then (xs.length : Int) == 0 else bif k == 6 then kindR s == 2 && (xs.length : Int) == 0 else
      bif k == 9 then decide (n ≥ 0) && (decide (n ≤ 1073741824) && (xs.length : Int) == 0) else bif k == 7 then (xs.length : Int) == 2 else k == 8 && (risingR ls none && (ls.length : Int) == (xs.length : Int))) := by
    unfold nodeR
    unfold bareR at hb
    have e1 : decide ((ls.length : Int) > 0) = !((ls.length : Int) == 0) := by
      by_cases h0 : ls.length = 0
      · rw [h0]; rfl
      · rw [decide_eq_true (show (ls.length : Int) > 0 by omega), beq_false_of_ne (show (ls.length : Int) ≠ 0 by omega)]; rfl
    rw [e1]
    simp only [bne]
    revert hb
    cases k == 6 <;> cases k == 9 <;> cases k == 8 <;> cases n == 0 <;> cases emptyS s <;> cases (ls.length : Int) == 0 <;> intro hb <;> first | (cases hb; done) | simp
  rw [hbn]
  simp only [Ty.k, Ty.n, Ty.name, Ty.labels]
  have h10 : k = 1 ∨ k = 2 ∨ k = 3 ∨ k = 4 ∨ k = 5 ∨ k = 6 ∨ k = 7 ∨ k = 8 ∨ k = 9 ∨ (k ≠ 1 ∧ k ≠ 2 ∧ k ≠ 3 ∧ k ≠ 4 ∧ k ≠ 5 ∧ k ≠ 6 ∧ k ≠ 7 ∧ k ≠ 8 ∧ k ≠ 9) := by omega
  rcases h10 with e | e | e | e | e | e | e | e | e | e
  all_goals try subst e
  all_goals simp only [bin_int, eqlI, geqI, leqI, bind_some', boolB, lenA24, lenA23, List.length_map, pvar_spec, hr, onOut_ret, Int.reduceBEq, condT, condF, andB, Int.reduceLE, Int.reduceGE, decide_true, decide_false, Bool.true_and, Bool.false_and, Bool.and_true, Bool.and_false]
  · rw [Bool.and_comm]
  · have e1 : ((xs.length : Int) == (ls.length : Int)) = ((ls.length : Int) == (xs.length : Int)) := by
      by_cases h0 : (xs.length : Int) = (ls.length : Int)
      · rw [h0]
      · rw [beq_false_of_ne h0, beq_false_of_ne (Ne.symm h0)]
    rw [e1, Bool.and_comm]
  · cases (xs.length : Int) == 0 <;> cases decide (n ≥ 0) <;> cases decide (n ≤ 1073741824) <;> rfl
  · obtain ⟨e1, e2, e3, e4, e5, e6, e7, e8, e9⟩ := e
    have e0 : (decide (k ≥ 1) && decide (k ≤ 5)) = false := by
      by_cases h0 : k ≥ 1
      · rw [decide_eq_true h0, decide_eq_false (show ¬ k ≤ 5 by omega)]; rfl
      · rw [decide_eq_false h0]; rfl
    rw [e0, beq_false_of_ne e1, beq_false_of_ne e2, beq_false_of_ne e3, beq_false_of_ne e4, beq_false_of_ne e5, beq_false_of_ne e6, beq_false_of_ne e7, beq_false_of_ne e8, beq_false_of_ne e9]
    rfl

theorem rightL_any : ∀ l : List Ty, l.any (fun a => !a.right) = !Ty.rightL l
  | [] => by rw [Ty.rightL]; rfl
  | t :: r => by rw [List.any_cons, Ty.rightL, rightL_any r, Bool.not_and]

/-- The program's Right is the document's. -/
theorem pright_spec : ∀ (t : Ty) (h : Heap), t.Ok → evw E 24 [.agg t.cells] h = some (.ret (.lit (.bool t.right)), h)
  | t, h, ok => by
    have hrec : ∀ a ∈ t.args, ∀ H : Heap, evw E 24 [.agg a.cells] H = some (.ret (.lit (.bool a.right)), H) := by
      intro a ha H
      obtain ⟨i, hi, rfl⟩ := List.mem_iff_getElem.1 ha
      exact pright_spec t.args[i] H (ok.arg ha)
    have h135 : evw E 41 [.sl 5 (t.args.map Ty.cells), .fn 42 [] []] h = some (.ret (.lit (.bool (!Ty.rightL t.args))), h) := by
      rw [← rightL_any]
      refine any_spec (fun a => !a.right) (.fn 42 [] []) h t.args ok.len fun a ha => ?_
      rw [applyS]
      show evw E 42 [.agg a.cells] h = _
      refine evw_run primsC 0 rfl rfl rfl ?_
      rw [nf42, aggS, bind_some', Ty.cells_len, show Nat.beq 5 5 = true from rfl, condT, Ty.refold, hrec a ha, onOut_ret, notB, bind_some']
    cases hb : bareR t.k t.n t.name t.labels.length with
    | false =>
      refine evw_run primsC 0 rfl rfl rfl ?_
      rw [nf24, aggS, bind_some', Ty.cells_len, show Nat.beq 5 5 = true from rfl, condT, Ty.refold, bare_spec, onOut_ret, notB, bind_some', boolB, bind_some', hb, Bool.not_false, condT, Ty.right_eq]
      have : nodeR t.k t.n t.name t.labels t.args.length = false := by
        unfold nodeR
        unfold bareR at hb
        have e1 : decide ((t.labels.length : Int) > 0) = !((t.labels.length : Int) == 0) := by
          by_cases h0 : t.labels.length = 0
          · rw [h0]; rfl
          · rw [decide_eq_true (show (t.labels.length : Int) > 0 by omega), beq_false_of_ne (show (t.labels.length : Int) ≠ 0 by omega)]; rfl
        rw [e1]
        simp only [bne]
        revert hb
        cases t.k == 6 <;> cases t.k == 9 <;> cases t.k == 8 <;> cases t.n == 0 <;> cases emptyS t.name <;> cases (t.labels.length : Int) == 0 <;> intro hb <;> first | (cases hb; done) | simp
      rw [this, Bool.and_false]
    | true =>
      cases hr : Ty.rightL t.args with
      | false =>
        refine evw_run primsC 0 rfl rfl rfl ?_
        rw [nf24, aggS, bind_some', Ty.cells_len, show Nat.beq 5 5 = true from rfl, condT, Ty.refold, bare_spec, onOut_ret, notB, bind_some', boolB, bind_some', hb, Bool.not_true, condF, Ty.c4, h135, onOut_ret, boolB, bind_some', hr, Bool.not_false, condT, Ty.right_eq, hr, Bool.false_and]
      | true =>
        rw [hr, Bool.not_true] at h135
        have := pright_tail t.k t.n t.name t.labels t.args ok.lab h hb rfl h135
        rw [Ty.right_eq, hr, Bool.true_and]
        rw [show (⟨t.k, t.n, t.name, t.labels, t.args⟩ : Ty) = t from by cases t; rfl] at this
        exact this
  termination_by t => SizeOf.sizeOf t
  decreasing_by exact Ty.size_arg hi
end Go.Sh.T

namespace Go.Sh.T
open Go Go.Sh
set_option linter.unusedSimpArgs false
set_option linter.unusedVariables false
set_option maxRecDepth 100000

structure Bind where
  name : ByteArray
  ty : Ty
def Bind.cells (b : Bind) : List AV := .lit (.string b.name) :: b.ty.cells
structure Bind.Ok (b : Bind) : Prop where
  name : b.name.size ≤ maxLen
  ty : b.ty.Ok
@[simp] theorem Bind.len (b : Bind) : b.cells.length = 6 := by simp [Bind.cells]
theorem Bind.p1 (b : Bind) : partA true 5 0 (b.cells.drop 1) = some (.agg b.ty.cells) := by
  rw [Bind.cells, List.drop_succ_cons, List.drop_zero]; exact partA_full (Ty.cells_len _)
theorem Bind.p0 (b : Bind) : partA false 1 0 (b.cells.drop 0) = some (.lit (.string b.name)) := (Eq.refl _).trans rfl
theorem Bind.g (b : Bind) (i : Nat) : b.cells.getD (i + 1) .dead = b.ty.cells.getD i .dead := (Eq.refl _).trans rfl
theorem lenA22 (es : List (List AV)) : lenA E 22 (.sl 6 es) = some (es.length : Int) := (Eq.refl _).trans (by kernel_rfl)

def few16L (n : Int) : List Bind → Int
  | [] => n
  | b :: r => few16L (max64 n [b.ty.much, quo8 b.name]) r
def few16 (l : List Bind) : Int := bif decide ((l.length : Int) > 20) then 5000 else few16L 0 (l.take 20)

theorem few16_spec (l : List Bind) (hl : l.length ≤ maxLen) (ok : ∀ s ∈ l, s.Ok) (h : Heap) : evw E 16 [.sl 6 (l.map Bind.cells)] h = some (.ret (.lit (.int .i64 (few16 l))), h) := by
  have hl : l.length ≤ 9223372036854775807 := hl
  have loop : ∀ (m i : Nat) (acc : Int), i ≤ l.length → l.length < m + i → Lp16_0 (evw E) (l.length + 1) h m h (.sl 6 (l.map Bind.cells)) (.lit (.int .i64 acc)) (.lit (.int .i64 (i : Int))) = some (.ret (.lit (.int .i64 (bif decide ((l.length : Int) > 20) then 5000 else few16L acc ((l.drop i).take (20 - i))))), h) := by
    intro m
    induction m with
    | zero => intro i acc h1 h2; omega
    | succ m ih =>
      intro i acc h1 h2
      rw [Lp16_0_succ]
      simp only [lenA22, bind_some', bin_int, lssI, boolB, List.length_map]
      by_cases hi : i < l.length
      · rw [ltT hi, condT]
        by_cases hk : i < 20
        · rw [show decide ((i : Int) < 20) = true from by simp; omega, condT]
          have o := ok l[i] (List.getElem_mem hi)
          have hm := maxs_i64 acc [l[i].ty.much, quo8 l[i].name]
          simp only [indexA_map _ _ _ _ hi, bind_some', Bind.len, show Nat.ble 0 6 = true from rfl, show Nat.ble 1 6 = true from rfl, Bind.p1, much_spec _ _ o.ty, onOut_ret]
          rw [condT, condT, Bind.p0]
          simp only [bind_some', lenS, bin_int, div8, addI]
          rw [show maxs (.lit (.int .i64 acc)) [.lit (.int .i64 l[i].ty.much), .lit (.int .i64 (quo8 l[i].name))] = _ from hm]
          rw [bind_some', incI (by omega), List.drop_eq_getElem_cons hi, show 20 - i = (20 - (i + 1)) + 1 from by omega, List.take_succ_cons, few16L]
          exact ih (i + 1) _ hi (by omega)
        · rw [show decide ((i : Int) < 20) = false from by simp; omega, condF, show 20 - i = 0 from by omega, List.take_zero, few16L, gtrI, bind_some', boolB, bind_some']
          cases decide ((l.length : Int) > 20) <;> rfl
      · rw [ltF hi, condF, List.drop_of_length_le (by omega), List.take_nil, few16L, gtrI, bind_some', boolB, bind_some']
        cases decide ((l.length : Int) > 20) <;> rfl
  refine evw_run primsC (l.length + 1) rfl rfl rfl ?_
  rw [nf16]
  have := loop (l.length + 1) 0 0 (Nat.zero_le _) (by omega)
  rw [List.drop_zero, Nat.sub_zero, show ((0 : Nat) : Int) = 0 from rfl] at this
  exact this

/- what is added -/
def addL (df : ByteArray) (nd : Int) : List Ty → List Bind → List Seal
  | r :: rs, b :: bs => ⟨r, b.ty, df, nd⟩ :: addL df nd rs bs
  | _, _ => []

/- the same seals -/
def Seal.same (s u : Seal) : Bool := ((s.df == u.df) && ((s.nd == u.nd) && true)) && (s.rep.same u.rep && s.bound.same u.bound)
def same28L : List Seal → List Seal → Bool
  | s :: r, u :: v => s.same u && same28L r v
  | _, _ => true
end Go.Sh.T

namespace Go.Sh.T
open Go Go.Sh
set_option linter.unusedSimpArgs false
set_option linter.unusedVariables false
set_option maxRecDepth 100000

/- opaque seals -/
/- seals in place of names -/
def idxR : List ByteArray → Int → ByteArray → Int
  | [], _, _ => -1
  | x :: r, i, s => bif strEq x s then i else idxR r (i + 1) s
theorem place_ref (l : List ByteArray) (hl : l.length ≤ maxLen) (s : ByteArray) (h : Heap) : evw E 34 [.sl 1 (l.map strC), .lit (.string s)] h = some (.ret (.lit (.int .i64 (idxR l 0 s))), h) := by
  have hl : l.length ≤ 9223372036854775807 := hl
  have loop : ∀ (q i : Nat), i ≤ l.length → l.length < q + i → Lp34_0 (evw E) (l.length + 1) h q h (.sl 1 (l.map strC)) (.lit (.string s)) (.lit (.int .i64 (i : Int))) = some (.ret (.lit (.int .i64 (idxR (l.drop i) i s))), h) := by
    intro q
    induction q with
    | zero => intro i h1 h2; omega
    | succ q ih =>
      intro i h1 h2
      rw [Lp34_0_succ, lenA23, bind_some', bin_int, lssI, bind_some', boolB, bind_some', List.length_map]
      by_cases hi : i < l.length
      · rw [ltT hi, condT, indexA_map _ _ _ _ hi, bind_some', part_str, bind_some', eqS, bind_some', boolB, bind_some', List.drop_eq_getElem_cons hi, idxR]
        cases strEq l[i] s with
        | true => rfl
        | false => rw [condF, condF, bin_int, addI, bind_some', incI (by omega)]; exact ih (i + 1) hi (by omega)
      · rw [ltF hi, condF, show l.drop i = [] from List.drop_eq_nil_of_le (by omega), idxR]
  refine evw_run primsC (l.length + 1) rfl rfl rfl ?_
  rw [nf34]
  have := loop (l.length + 1) 0 (Nat.zero_le _) (by omega)
  rw [List.drop_zero, show ((0 : Nat) : Int) = 0 from rfl] at this
  exact this
theorem index_prog (l : List ByteArray) (hl : l.length ≤ maxLen) (s : ByteArray) (h : Heap) : evw E 87 [.sl 1 (l.map strC), .lit (.string s)] h = some (.ret (.lit (.int .i64 (idxR l 0 s))), h) := by
  have hl : l.length ≤ 9223372036854775807 := hl
  have loop : ∀ (q i : Nat), i ≤ l.length → l.length < q + i → Lp87_0 (evw E) (l.length + 1) h q h (.sl 1 (l.map strC)) (.lit (.string s)) (.lit (.int .i64 (l.length : Int))) (.lit (.int .i64 (i : Int))) = some (.ret (.lit (.int .i64 (idxR (l.drop i) i s))), h) := by
    intro q
    induction q with
    | zero => intro i h1 h2; omega
    | succ q ih =>
      intro i h1 h2
      rw [Lp87_0_succ, bin_int, lssI, bind_some', boolB, bind_some']
      by_cases hi : i < l.length
      · rw [ltT hi, condT, indexA_map _ _ _ _ hi, bind_some', part_str, bind_some', eqS, bind_some', boolB, bind_some', List.drop_eq_getElem_cons hi, idxR, strEq_comm s l[i]]
        cases strEq l[i] s with
        | true => rfl
        | false => rw [condF, condF, bin_int, addI, bind_some', incI (by omega)]; exact ih (i + 1) hi (by omega)
      · rw [ltF hi, condF, show l.drop i = [] from List.drop_eq_nil_of_le (by omega), idxR]
  refine evw_run primsC (l.length + 1) rfl rfl rfl ?_
  rw [nf87, lenA23, bind_some', List.length_map]
  have := loop (l.length + 1) 0 (Nat.zero_le _) (by omega)
  rw [List.drop_zero, show ((0 : Nat) : Int) = 0 from rfl] at this
  exact this

end Go.Sh.T

/- Casts: the small functions of the program and of the reference. -/
namespace Go.Sh.T
open Go Go.Sh
set_option linter.unusedSimpArgs false
set_option linter.unusedVariables false
set_option maxRecDepth 100000

theorem b5 : Nat.beq 5 5 = true := rfl
theorem b10 : Nat.beq 10 10 = true := rfl
theorem b2 (x y : AV) : Nat.beq ([x, y] : List AV).length 2 = true := (Eq.refl _).trans rfl
theorem g0 (x y : AV) : ([x, y] : List AV).getD 0 .dead = x := (Eq.refl _).trans rfl
theorem g1 (x y : AV) : ([x, y] : List AV).getD 1 .dead = y := (Eq.refl _).trans rfl
theorem t20 (x y : AV) : ([x, y] : List AV)[0]? = some x := (Eq.refl _).trans rfl
theorem t21 (x y : AV) : ([x, y] : List AV)[1]? = some y := (Eq.refl _).trans rfl
theorem eqlE (a b : Int) : intBin .eql .i64 a b = some (.lit (.bool (eqd a b))) := by rw [eqlI, int_eqd]
theorem neqE (a b : Int) : intBin .neq .i64 a b = some (.lit (.bool (!(eqd a b)))) := by rw [neqI, int_ne]

def zeroV : Val := ⟨0, 0, 0, false, ByteArray.empty, ByteArray.empty, 0, [], [], []⟩
def zeroT : Ty := ⟨0, 0, ByteArray.empty, [], []⟩
def dynT : Ty := ⟨5, 0, ByteArray.empty, [], []⟩
def unkT : Ty := ⟨7, 0, ByteArray.empty, [], [dynT, dynT]⟩
theorem zeroT_cells : zeroT.cells = [.lit (.int .i64 0), .lit (.int .i64 0), .lit (.string ByteArray.empty), .sl 1 [], .sl 5 []] := by rw [Ty.cells_eq]; rfl
theorem dynT_cells : dynT.cells = [.lit (.int .i64 5), .lit (.int .i64 0), .lit (.string ByteArray.empty), .sl 1 [], .sl 5 []] := by rw [Ty.cells_eq]; rfl
theorem dynT_ok : dynT.Ok := .mk (show (Lit.int .i64 5).wf = true by decide) (show (Lit.int .i64 0).wf = true by decide) (Nat.zero_le _) (Nat.zero_le _) (fun _ h => by cases h) (Nat.zero_le _) (fun _ h => by cases h)
noncomputable def Val.fn (v : Val) : Bool := eqd v.k 5 || (eqd v.k 6 || eqd v.k 7)
noncomputable def Ty.loose (t : Ty) : Bool := eqd t.k 5 || eqd t.k 4

theorem fun120 (a b : Ty) (h : Heap) : evw E 72 [.agg a.cells, .agg b.cells] h = some (.ret (.agg [.lit (.int .i64 7), .lit (.int .i64 0), .lit (.string ByteArray.empty), .sl 1 [], .sl 5 [a.cells, b.cells]]), h) := by
  refine evw_run primsC 0 rfl rfl rfl ?_
  rw [nf72]
  simp only [aggS, bind_some', Ty.cells_len, b5, condT, Ty.refold]
/- what comes: a value, or a label -/
inductive Got where
  | ok (v : Val)
  | bl (s : ByteArray) (n : Int)
abbrev labA (s : ByteArray) (n : Int) : AV := .agg [.lit (.string s), .lit (.int .i64 n)]
def Got.out : Got → Out
  | .ok v => .ret (.agg v.cells)
  | .bl s n => .pan (.ifc 110 (labA s n))
def Got.cells : Got → List AV
  | .ok v => v.cells ++ [.lit (.string ByteArray.empty), .lit (.int .i64 0), .lit (.bool true)]
  | .bl s n => zeroV.cells ++ [.lit (.string s), .lit (.int .i64 n), .lit (.bool false)]
theorem Got.cells_len (g : Got) : g.cells.length = 13 := by cases g <;> simp [Got.cells]

/- fields -/
def ix : List ByteArray → ByteArray → Option Nat
  | [], _ => none
  | x :: r, s => bif strEq x s then some 0 else (ix r s).map (· + 1)
theorem idxR_ix : ∀ (l : List ByteArray) (k : Nat) (s : ByteArray), idxR l k s = match ix l s with | some i => ((k + i : Nat) : Int) | none => -1
  | [], k, s => by rw [idxR, ix]
  | x :: r, k, s => by
    rw [idxR, ix]
    cases strEq x s with
    | true => rfl
    | false =>
      rw [cond_false, cond_false, show ((k : Int) + 1) = ((k + 1 : Nat) : Int) from rfl, idxR_ix r (k + 1) s]
      cases ix r s with
      | none => rfl
      | some i => show ((k + 1 + i : Nat) : Int) = ((k + (i + 1) : Nat) : Int); omega
noncomputable def fieldT (t : Ty) (s : ByteArray) : Option Ty := bif eqd t.k 8 then (ix t.labels s).bind fun i => t.args[i]? else none
noncomputable def fieldV (v : Val) (s : ByteArray) : Option Val := bif eqd v.k 4 then (ix v.labels s).bind fun i => v.kids[i]? else none

theorem fieldT_run (t : Ty) (s : ByteArray) (h : Heap) (r : R) (hr : ∀ a : Int, a = idxR t.labels 0 s → cond (!(eqd t.k 8)) (some (.ret (.tup [.agg zeroT.cells, .lit (.bool false)]), h)) (cond (decide (a < 0)) (some (.ret (.tup [.agg zeroT.cells, .lit (.bool false)]), h)) (cond (decide (a ≥ (t.args.length : Int))) (some (.ret (.tup [.agg zeroT.cells, .lit (.bool false)]), h)) ((indexA 5 (.sl 5 (t.args.map Ty.cells)) (.lit (.int .i64 a))).bind fun e => (partA true 5 0 e).bind fun v => (aggOf v).bind fun l => cond (Nat.beq l.length 5) (some (.ret (.tup [.agg [l.getD 0 .dead, l.getD 1 .dead, l.getD 2 .dead, l.getD 3 .dead, l.getD 4 .dead], .lit (.bool true)]), h)) none))) = r) :
    r = some (.ret (.tup [.agg ((fieldT t s).getD zeroT).cells, .lit (.bool (fieldT t s).isSome)]), h) := by
  rw [← hr _ rfl]
  have hix := idxR_ix t.labels 0 s
  rw [show ((0 : Nat) : Int) = 0 from rfl] at hix
  rw [hix]
  unfold fieldT
  cases eqd t.k 8 with
  | false => rfl
  | true =>
    rw [Bool.not_true, condF, cond_true]
    cases ix t.labels s with
    | none => rfl
    | some i =>
      show cond (decide (((0 + i : Nat) : Int) < 0)) _ (cond (decide (((0 + i : Nat) : Int) ≥ (t.args.length : Int))) _ ((indexA 5 _ (.lit (.int .i64 ((0 + i : Nat) : Int)))).bind _)) = _
      rw [Nat.zero_add, decide_eq_false (show ¬ (i : Int) < 0 by omega), condF, Option.bind_some]
      by_cases hi : i < t.args.length
      · rw [decide_eq_false (show ¬ (i : Int) ≥ (t.args.length : Int) by omega), condF, indexA_map _ _ _ _ hi, bind_some', partA_full (Ty.cells_len _), bind_some', aggS, bind_some', Ty.cells_len, b5, condT, Ty.refold, List.getElem?_eq_getElem hi]; rfl
      · rw [decide_eq_true (show (i : Int) ≥ (t.args.length : Int) by omega), condT, List.getElem?_eq_none (by omega)]; rfl
theorem field174 (t : Ty) (ok : t.Ok) (s : ByteArray) (h : Heap) : evw E 73 [.agg t.cells, .lit (.string s)] h = some (.ret (.tup [.agg ((fieldT t s).getD zeroT).cells, .lit (.bool (fieldT t s).isSome)]), h) := by
  refine evw_run primsC 0 rfl rfl rfl ?_
  rw [nf73]
  refine fieldT_run t s h _ fun a ha => ?_
  simp only [aggS, bind_some', Ty.cells_len, b5, condT, Ty.c0, Ty.c3, Ty.c4, index_prog _ ok.lab, onOut_ret, ← ha, bin_int, neqE, boolB, lssI, geqI, lenA24, List.length_map, zeroT_cells]
theorem field116 (t : Ty) (ok : t.Ok) (s : ByteArray) (h : Heap) : evw E 67 [.agg t.cells, .lit (.string s)] h = some (.ret (.tup [.agg ((fieldT t s).getD zeroT).cells, .lit (.bool (fieldT t s).isSome)]), h) := by
  refine evw_run primsC 0 rfl rfl rfl ?_
  rw [nf67]
  refine fieldT_run t s h _ fun a ha => ?_
  simp only [aggS, bind_some', Ty.cells_len, b5, condT, Ty.c0, Ty.c3, Ty.c4, place_ref _ ok.lab, onOut_ret, ← ha, bin_int, neqE, boolB, lssI, geqI, lenA24, List.length_map, zeroT_cells]

end Go.Sh.T

/- Bounds: what is found, and what is up. -/
namespace Go.Sh.T
open Go Go.Sh
set_option linter.unusedSimpArgs false
set_option linter.unusedVariables false
set_option maxRecDepth 100000

theorem b6 : Nat.beq 6 6 = true := rfl
theorem Bind.n0 (b : Bind) : b.cells.getD 0 .dead = .lit (.string b.name) := (Eq.refl _).trans rfl
theorem Bind.re (b : Bind) : [b.cells.getD 1 .dead, b.cells.getD 2 .dead, b.cells.getD 3 .dead, b.cells.getD 4 .dead, b.cells.getD 5 .dead] = b.ty.cells := Ty.refold b.ty
noncomputable def findB : List Bind → ByteArray → Option Ty
  | [], _ => none
  | b :: r, s => bif strEq b.name s then some b.ty else findB r s
theorem bfind38 (d : List Bind) (hd : d.length ≤ maxLen) (s : ByteArray) (h : Heap) : evw E 93 [.sl 6 (d.map Bind.cells), .lit (.string s)] h = some (.ret (.tup [.agg ((findB d s).getD zeroT).cells, .lit (.bool (findB d s).isSome)]), h) := by
  have hd : d.length ≤ 9223372036854775807 := hd
  have loop : ∀ (q i : Nat), i ≤ d.length → d.length < q + i → Lp93_0 (evw E) (d.length + 1) h q h (.lit (.string s)) (.lit (.int .i64 0)) (.lit (.int .i64 0)) (.lit (.string ByteArray.empty)) [] [] (.sl 6 (d.map Bind.cells)) (.lit (.int .i64 (d.length : Int))) (.lit (.int .i64 (i : Int))) = some (.ret (.tup [.agg ((findB (d.drop i) s).getD zeroT).cells, .lit (.bool (findB (d.drop i) s).isSome)]), h) := by
    intro q
    induction q with
    | zero => intro i h1 h2; omega
    | succ q ih =>
      intro i h1 h2
      rw [Lp93_0_succ, bin_int, lssI, bind_some', boolB, bind_some']
      by_cases hi : i < d.length
      · rw [ltT hi, condT, indexA_map _ _ _ _ hi, bind_some', partA_full (Bind.len _), bind_some', aggS, bind_some', Bind.len, b6, condT, Bind.n0, eqS, bind_some', boolB, bind_some', Bind.re, List.drop_eq_getElem_cons hi, findB]
        cases strEq (d[i]).name s with
        | true => rfl
        | false => rw [condF, cond_false, bin_int, addI, bind_some', incI (by omega)]; exact ih (i + 1) hi (by omega)
      · rw [ltF hi, condF, List.drop_of_length_le (by omega), findB, Option.getD_none, zeroT_cells]; rfl
  refine evw_run primsC (d.length + 1) rfl rfl rfl ?_
  rw [nf93, lenA22, bind_some', List.length_map]
  have := loop (d.length + 1) 0 (Nat.zero_le _) (by omega)
  rw [List.drop_zero] at this
  exact this
theorem names45 (d : List Bind) (hd : d.length ≤ 1000) (h : Heap) : evw E 35 [.sl 6 (d.map Bind.cells)] h = some (.ret (.sl 1 ((d.map Bind.name).map strC)), h) := by
  have loop : ∀ (q i : Nat), i ≤ d.length → d.length < q + i → Lp35_0 (evw E) (d.length + 1) h q h (.sl 6 (d.map Bind.cells)) (((d.take i).map Bind.name).map strC) (.lit (.int .i64 (i : Int))) = some (.ret (.sl 1 ((d.map Bind.name).map strC)), h) := by
    intro q
    induction q with
    | zero => intro i h1 h2; omega
    | succ q ih =>
      intro i h1 h2
      rw [Lp35_0_succ, lenA22, bind_some', List.length_map, bin_int, lssI, bind_some', boolB, bind_some']
      by_cases hi : i < d.length
      · have hl : ((((d.take i).map Bind.name).map strC).length + ([[(.lit (.string (d[i]).name) : AV)]] : List (List AV)).length) = i + 1 := by rw [List.length_map, List.length_map, List.length_take, Nat.min_eq_left (by omega)]; rfl
        have hn : (((d.take i).map Bind.name).map strC) ++ [[.lit (.string (d[i]).name)]] = ((d.take (i + 1)).map Bind.name).map strC := by
          rw [List.take_succ_eq_append_getElem hi, List.map_append, List.map_append]; rfl
        have hle : Nat.ble (i + 1) maxApp = true := by rw [Nat.ble_eq]; exact Nat.le_trans (show i + 1 ≤ 1000 by omega) (by decide)
        rw [ltT hi, condT, indexA_map _ _ _ _ hi, bind_some', Bind.len, show Nat.ble 0 6 = true from rfl, condT, Bind.p0, bind_some', show AV.one (.lit (.string (d[i]).name)) = true from rfl, condT, hl, hle, condT, hn, bin_int, addI, bind_some', incI (by omega)]
        exact ih (i + 1) hi (by omega)
      · rw [ltF hi, condF, List.take_of_length_le (by omega)]
  refine evw_run primsC (d.length + 1) rfl rfl rfl ?_
  rw [nf35]
  exact loop (d.length + 1) 0 (Nat.zero_le _) (by omega)
theorem findB_ix : ∀ (d : List Bind) (s : ByteArray), findB d s = (ix (d.map Bind.name) s).bind fun i => (d[i]?).map Bind.ty
  | [], s => rfl
  | b :: r, s => by
    rw [findB, List.map_cons, ix]
    cases strEq b.name s with
    | true => rfl
    | false =>
      rw [cond_false, cond_false, findB_ix r s]
      cases ix (r.map Bind.name) s with
      | none => rfl
      | some i => rfl
theorem ix_lt : ∀ {l : List ByteArray} {s : ByteArray} {i : Nat}, ix l s = some i → i < l.length
  | x :: r, s, i, h => by
    rw [ix] at h
    cases he : strEq x s with
    | true => rw [he, cond_true] at h; rw [← Option.some.inj h]; simp
    | false =>
      rw [he, cond_false, Option.map_eq_some_iff] at h
      obtain ⟨j, h1, h2⟩ := h
      have := ix_lt h1
      rw [← h2]; simpa using this
theorem rfind39 (d : List Bind) (hd : d.length ≤ 1000) (s : ByteArray) (h : Heap) : evw E 84 [.sl 6 (d.map Bind.cells), .lit (.string s)] h = some (.ret (.tup [.agg ((findB d s).getD zeroT).cells, .lit (.bool (findB d s).isSome)]), h) := by
  refine evw_run primsC 0 rfl rfl rfl ?_
  rw [nf84, names45 d hd, onOut_ret, place_ref _ (by rw [List.length_map]; exact Nat.le_trans hd (by decide)), onOut_ret, show idxR (d.map Bind.name) 0 s = _ from idxR_ix (d.map Bind.name) 0 s, findB_ix]
  cases hx : ix (d.map Bind.name) s with
  | none => rw [Option.bind_none, Option.getD_none, zeroT_cells]; rfl
  | some i =>
    have hi : i < d.length := by have := ix_lt hx; rwa [List.length_map] at this
    simp only [Nat.zero_add, Option.bind_some, List.getElem?_eq_getElem hi, Option.map_some, Option.getD_some, Option.isSome_some]
    rw [bin_int, lssI, bind_some', boolB, bind_some', show decide ((i : Int) < 0) = false from by simp, condF, indexA_map _ _ _ _ hi, bind_some', Bind.len, show Nat.ble 1 6 = true from rfl, condT, Bind.p1, bind_some', aggS, bind_some', Ty.cells_len, b5, condT, Ty.refold]
/-- A variable's bound; any other type itself. -/
noncomputable def upT (d : List Bind) (t : Ty) : Ty × Bool := bif eqd t.k 6 then (match findB d t.name with | some u => (u, true) | none => (t, false)) else (t, false)
theorem eT' (t : Ty) (op : BinOp) (k : Int) : binAV E op 3 (t.cells.getD 0 .dead) (.lit (.int .i64 k)) = intBin op .i64 t.k k := by rw [Ty.c0, bin_int]
theorem up40 (d : List Bind) (hd : d.length ≤ maxLen) (t : Ty) (h : Heap) : evw E 86 [.sl 6 (d.map Bind.cells), .agg t.cells] h = some (.ret (.tup [.agg (upT d t).1.cells, .lit (.bool (upT d t).2)]), h) := by
  refine evw_run primsC 0 rfl rfl rfl ?_
  rw [nf86, aggS, bind_some', Ty.cells_len, b5, condT, eT', neqE, bind_some', boolB, bind_some', Ty.refold]
  unfold upT
  cases eqd t.k 6 with
  | false => rfl
  | true =>
    rw [Bool.not_true, condF, cond_true, Ty.c2, bfind38 d hd, onOut_ret, tupS, bind_some', t20, bind_some', bind_some', t21, bind_some', aggS, bind_some', Ty.cells_len, b5, condT, boolB, bind_some', Ty.refold]
    cases findB d t.name with
    | none => rfl
    | some u => rfl
theorem up41 (d : List Bind) (hd : d.length ≤ 1000) (t : Ty) (h : Heap) : evw E 66 [.sl 6 (d.map Bind.cells), .agg t.cells] h = some (.ret (.tup [.agg (upT d t).1.cells, .lit (.bool (upT d t).2)]), h) := by
  refine evw_run primsC 0 rfl rfl rfl ?_
  rw [nf66, aggS, bind_some', Ty.cells_len, b5, condT, eT', eqlE, bind_some', boolB, bind_some', Ty.refold]
  unfold upT
  cases eqd t.k 6 with
  | false => rfl
  | true =>
    rw [condT, cond_true, Ty.c2, rfind39 d hd, onOut_ret, tupS, bind_some', t20, bind_some', bind_some', t21, bind_some', aggS, bind_some', Ty.cells_len, b5, condT, boolB, bind_some', Ty.refold]
    cases findB d t.name with
    | none => rfl
    | some u => rfl
theorem findB_mem : ∀ {d : List Bind} {s : ByteArray} {u : Ty}, findB d s = some u → ∃ b ∈ d, b.ty = u
  | b :: r, s, u, h => by
    rw [findB] at h
    cases he : strEq b.name s with
    | true => rw [he, cond_true] at h; exact ⟨b, List.mem_cons_self, Option.some.inj h⟩
    | false =>
      rw [he, cond_false] at h
      obtain ⟨c, h1, h2⟩ := findB_mem h
      exact ⟨c, List.mem_cons_of_mem _ h1, h2⟩
theorem upT_ok {d : List Bind} (od : ∀ b ∈ d, b.Ok) {t : Ty} (ot : t.Ok) : (upT d t).1.Ok := by
  unfold upT
  cases eqd t.k 6 with
  | false => exact ot
  | true =>
    rw [cond_true]
    cases hf : findB d t.name with
    | none => exact ot
    | some u => obtain ⟨b, h1, h2⟩ := findB_mem hf; rw [← h2]; exact (od b h1).ty
theorem behind72 (d : List Bind) (hd : d.length ≤ maxLen) (od : ∀ b ∈ d, b.Ok) (t : Ty) (ot : t.Ok) (h : Heap) : evw E 71 [.sl 6 (d.map Bind.cells), .agg t.cells] h = some (.ret (.tup [.agg (upT d t).1.cells, .lit (.bool (t.right && (upT d t).1.right))]), h) := by
  refine evw_run primsC 0 rfl rfl rfl ?_
  rw [nf71, aggS, bind_some', Ty.cells_len, b5, condT, Ty.refold, up40 d hd, onOut_ret, tupS, bind_some', t20, bind_some', bind_some', t21, bind_some', aggS, bind_some', Ty.cells_len, b5, condT, pright_spec t _ ot, onOut_ret, boolB, bind_some', Ty.refold, pright_spec _ _ (upT_ok od ot), onOut_ret]
  cases t.right <;> rfl
end Go.Sh.T

/- Match: as which function, as which record. -/
namespace Go.Sh.T
open Go Go.Sh
set_option linter.unusedSimpArgs false
set_option linter.unusedVariables false
set_option maxRecDepth 100000

theorem evk {f : Nat} {args : List AV} {h : Heap} {r : Out × Heap} (k : Nat) (e : ev E k f args h = some r) : evw E f args h = some r := (evw_iff primsC).2 ⟨k, e⟩
theorem t30 (x y z : AV) : ([x, y, z] : List AV)[0]? = some x := (Eq.refl _).trans rfl
theorem t31 (x y z : AV) : ([x, y, z] : List AV)[1]? = some y := (Eq.refl _).trans rfl
theorem t32 (x y z : AV) : ([x, y, z] : List AV)[2]? = some z := (Eq.refl _).trans rfl
def fnT (a b : Ty) : Ty := ⟨7, 0, ByteArray.empty, [], [a, b]⟩
theorem fnT_cells (a b : Ty) : (fnT a b).cells = [.lit (.int .i64 7), .lit (.int .i64 0), .lit (.string ByteArray.empty), .sl 1 [], .sl 5 [a.cells, b.cells]] := by rw [Ty.cells_eq]; rfl
def recT1 (x : ByteArray) (u : Ty) : Ty := ⟨8, 0, ByteArray.empty, [x], [u]⟩
theorem recT1_cells (x : ByteArray) (u : Ty) : (recT1 x u).cells = [.lit (.int .i64 8), .lit (.int .i64 0), .lit (.string ByteArray.empty), .sl 1 [[.lit (.string x)]], .sl 5 [u.cells]] := by rw [Ty.cells_eq]; rfl
/-- As which function does a type serve? -/
noncomputable def funM (d : List Bind) (t : Ty) : Option Ty := bif t.right && (upT d t).1.right then (bif eqd (upT d t).1.k 5 then some (fnT (upT d t).1 (upT d t).1) else bif eqd (upT d t).1.k 7 then some (upT d t).1 else none) else none
theorem fun17 (d : List Bind) (hd : d.length ≤ maxLen) (od : ∀ b ∈ d, b.Ok) (t : Ty) (ot : t.Ok) (h : Heap) : evw E 51 [.sl 6 (d.map Bind.cells), .agg t.cells] h = some (.ret (.tup [.agg ((funM d t).getD zeroT).cells, .lit (.bool (funM d t).isSome)]), h) := by
  refine evw_run primsC 0 rfl rfl rfl ?_
  rw [nf51, aggS, bind_some', Ty.cells_len, b5, condT, Ty.refold, behind72 d hd od t ot, onOut_ret, tupS, bind_some', t20, bind_some', bind_some', t21, bind_some', aggS, bind_some', Ty.cells_len, b5, condT, notB, bind_some', boolB, bind_some', Ty.refold, eT', eT', eqlE, eqlE, bind_some', bind_some', boolB, boolB, bind_some', bind_some', fun120, onOut_ret, ← fnT_cells, aggS, bind_some', Ty.cells_len, b5, condT, Ty.refold, ← zeroT_cells]
  unfold funM
  cases t.right && (upT d t).1.right with
  | false => rfl
  | true =>
    cases eqd (upT d t).1.k 5 with
    | true => rfl
    | false => cases eqd (upT d t).1.k 7 <;> rfl
theorem sort100 (x a b c e g : AV) (h : Heap) : evw E 88 [.sl 6 [[x, a, b, c, e, g]], .fn 89 [] []] h = some (.ret (.tup []), h) := evk 8 (by kernel_rfl)
theorem rec62 (x : ByteArray) (u : Ty) (h : Heap) : evw E 74 [.sl 1 [[.lit (.string x)]], .sl 5 [u.cells]] h = some (.ret (bif kindR x == 1 then .tup [.agg (recT1 x u).cells, .lit (.bool true)] else .tup [.agg zeroT.cells, .lit (.bool false)]), h) := by
  have h93 := prising_spec [x] (show 1 ≤ maxLen by decide) h
  rw [show ([x] : List ByteArray).map strC = [[.lit (.string x)]] from rfl, show risingR [x] none = (kindR x == 1) from by simp [risingR, gapR]] at h93
  have l01 : binAV E .lss 3 (.lit (.int .i64 0)) (.lit (.int .i64 1)) = some (.lit (.bool true)) := (Eq.refl _).trans (by kernel_rfl)
  have l11 : binAV E .lss 3 (.lit (.int .i64 1)) (.lit (.int .i64 1)) = some (.lit (.bool false)) := (Eq.refl _).trans (by kernel_rfl)
  have n11 : binAV E .neq 3 (.lit (.int .i64 1)) (.lit (.int .i64 1)) = some (.lit (.bool false)) := (Eq.refl _).trans (by kernel_rfl)
  have a01 : binAV E .add 3 (.lit (.int .i64 0)) (.lit (.int .i64 1)) = some (.lit (.int .i64 1)) := (Eq.refl _).trans (by kernel_rfl)
  have i1 : ∀ e : List AV, indexA 1 (.sl 1 [e]) (.lit (.int .i64 0)) = some e := fun e => (Eq.refl _).trans rfl
  have i5 : ∀ e : List AV, indexA 5 (.sl 5 [e]) (.lit (.int .i64 0)) = some e := fun e => (Eq.refl _).trans rfl
  have i6 : ∀ e : List AV, indexA 6 (.sl 6 [e]) (.lit (.int .i64 0)) = some e := fun e => (Eq.refl _).trans rfl
  have le1 : lenA E 23 (.sl 1 [[.lit (.string x)]]) = some 1 := (lenA23 _).trans rfl
  have le2 : lenA E 24 (.sl 5 [u.cells]) = some 1 := (lenA24 _).trans rfl
  have le3 : ∀ e : List AV, lenA E 92 (.sl 6 [e]) = some 1 := fun e => (Eq.refl _).trans (by kernel_rfl)
  have p1 : partA false 1 0 [(.lit (.string x) : AV)] = some (.lit (.string x)) := (Eq.refl _).trans rfl
  have on1 : AV.one (.lit (.string x)) = true := rfl
  have hmx : Nat.ble 1 maxApp = true := by decide
  have ml : ∀ e : List AV, Nat.ble (([] : List (List AV)).length + ([e] : List (List AV)).length) maxApp = true := fun e => hmx
  have nn : ∀ e : List AV, ([] : List (List AV)) ++ [e] = [e] := fun e => rfl
  have hb : ([.lit (.string x), u.cells.getD 0 .dead, u.cells.getD 1 .dead, u.cells.getD 2 .dead, u.cells.getD 3 .dead, u.cells.getD 4 .dead] : List AV) = (Bind.mk x u).cells := by
    unfold Bind.cells; rw [show ([u.cells.getD 0 .dead, u.cells.getD 1 .dead, u.cells.getD 2 .dead, u.cells.getD 3 .dead, u.cells.getD 4 .dead] : List AV) = u.cells from Ty.refold u]
  have s100 : evw E 88 [.sl 6 [(Bind.mk x u).cells], .fn 89 [] []] h = some (.ret (.tup []), h) := by rw [← hb]; exact sort100 _ _ _ _ _ _ h
  refine evw_run primsC 2 rfl rfl rfl ?_
  rw [nf74, le1, bind_some', le2, bind_some', n11, bind_some', boolB, bind_some', condF, bind_some', Lp74_0_succ, l01, bind_some', boolB, bind_some', condT, i1, bind_some', p1, bind_some', i5, bind_some', partA_full (Ty.cells_len _), bind_some', on1, condT, aggS, bind_some', Ty.cells_len, b5, condT, ml, condT, a01, bind_some', nn, hb, Lp74_0_succ, l11, bind_some', boolB, bind_some', condF, s100, onOut_ret, le3, bind_some', Lp74_1_succ, l01, bind_some', boolB, bind_some', condT, i6, bind_some', partA_full (Bind.len _), bind_some', aggS, bind_some', Bind.len, b6, condT, Bind.n0, on1, condT, ml, condT, ml, condT, a01, bind_some', nn, nn, Bind.re, Lp74_1_succ, l11, bind_some', boolB, bind_some', condF, h93, onOut_ret, notB, bind_some', boolB, bind_some', ← zeroT_cells, show Ty.cells (Bind.ty ⟨x, u⟩) = u.cells from rfl, show Bind.name ⟨x, u⟩ = x from rfl, ← recT1_cells]
  cases kindR x == 1 <;> rfl
end Go.Sh.T

/- Right types, by parts; less. -/
namespace Go.Sh.T
open Go Go.Sh
set_option linter.unusedSimpArgs false
set_option linter.unusedVariables false
set_option maxRecDepth 100000

/-- Why a cast blames its own label at once. -/
theorem eqd_ne {α : Type} {a b : α} (h : eqd a b = false) : a ≠ b := fun e => by rw [e, eqd_self] at h; cases h
theorem eqdN {a b : Int} (h : a ≠ b) : eqd a b = false := eqd_f h
theorem dynT_loose : dynT.loose = true := by unfold Ty.loose; rw [show eqd dynT.k 5 = true from eqd_self _]; rfl
theorem dynT_right : dynT.right = true := by rw [Ty.right_eq]; decide +kernel
theorem eT (t : Ty) (op : BinOp) (k : Int) : binAV E op 3 (t.cells.getD 0 .dead) (.lit (.int .i64 k)) = intBin op .i64 t.k k := eT' t op k
theorem rightL_mem : ∀ {l : List Ty} {x : Ty}, Ty.rightL l = true → x ∈ l → x.right = true
  | y :: r, x, h, hx => by
    rw [Ty.rightL, Bool.and_eq_true] at h
    rcases List.mem_cons.1 hx with e | e
    · rw [e]; exact h.1
    · exact rightL_mem h.2 e
theorem right_rec {t : Ty} (h : t.right = true) (hk : t.k = 8) : risingR t.labels none = true ∧ t.labels.length = t.args.length := by
  rw [Ty.right_eq, Bool.and_eq_true] at h
  have h2 := h.2
  unfold nodeR at h2
  rw [hk] at h2
  simp only [Bool.and_eq_true] at h2
  have h3 := h2.2
  simp only [show (decide ((8 : Int) ≥ 1) && decide ((8 : Int) ≤ 5)) = false from rfl, show ((8 : Int) == 6) = false from rfl, show ((8 : Int) == 9) = false from rfl, show ((8 : Int) == 7) = false from rfl, show ((8 : Int) == 8) = true from rfl, cond_false, Bool.true_and, Bool.and_eq_true, beq_iff_eq] at h3
  exact ⟨h3.1, by omega⟩
theorem right_fn {t : Ty} (h : t.right = true) (hk : t.k = 7) : t.args.length = 2 := by
  rw [Ty.right_eq, Bool.and_eq_true] at h
  have h2 := h.2
  unfold nodeR at h2
  rw [hk] at h2
  simp only [Bool.and_eq_true] at h2
  have h3 := h2.2
  simp only [show (decide ((7 : Int) ≥ 1) && decide ((7 : Int) ≤ 5)) = false from rfl, show ((7 : Int) == 6) = false from rfl, show ((7 : Int) == 9) = false from rfl, show ((7 : Int) == 7) = true from rfl, cond_false, cond_true, beq_iff_eq] at h3
  omega
theorem right_arg {t u : Ty} (h : t.right = true) (hu : u ∈ t.args) : u.right = true := by
  rw [Ty.right_eq, Bool.and_eq_true] at h
  exact rightL_mem h.1 hu
theorem bLess_irr : ∀ x : List UInt8, Op.bytesLess x x = false
  | [] => by rw [Op.bytesLess]
  | a :: r => by rw [Op.bytesLess, bLess_irr r, Bool.and_false, Bool.or_false]; simp
theorem bLess_trans : ∀ x y z : List UInt8, Op.bytesLess x y = true → Op.bytesLess y z = true → Op.bytesLess x z = true
  | x, [], z, h1, _ => by rw [Op.bytesLess] at h1; cases h1
  | x, b :: y, [], _, h2 => by rw [Op.bytesLess] at h2; cases h2
  | [], b :: y, c :: z, _, _ => by rw [Op.bytesLess]
  | a :: x, b :: y, c :: z, h1, h2 => by
    rw [Op.bytesLess, Bool.or_eq_true, Bool.and_eq_true] at h1 h2 ⊢
    rcases h1 with h1 | ⟨h1, h1'⟩
    · rcases h2 with h2 | ⟨h2, h2'⟩
      · left; simp only [decide_eq_true_eq] at h1 h2 ⊢; exact UInt8.lt_trans h1 h2
      · left; rw [← eq_of_beq h2]; exact h1
    · rcases h2 with h2 | ⟨h2, h2'⟩
      · left; rw [eq_of_beq h1]; exact h2
      · right; exact ⟨by rw [eq_of_beq h1]; exact h2, bLess_trans x y z h1' h2'⟩
theorem rising_gt : ∀ {r : List ByteArray} {q : ByteArray}, risingR r (some q) = true → ∀ x ∈ r, strLt q x = true
  | y :: r, q, h, x, hx => by
    rw [risingR, Bool.and_eq_true, Bool.and_eq_true] at h
    have h2 : strLt q y = true := h.1.2
    rcases List.mem_cons.1 hx with e | e
    · rw [e]; exact h2
    · exact bLess_trans _ _ _ h2 (rising_gt h.2 x e)
theorem ix_rising : ∀ {r : List ByteArray} {p : Option ByteArray} {i : Nat} {x : ByteArray}, risingR r p = true → r[i]? = some x → ix r x = some i
  | [], p, i, x, _, h => by simp at h
  | y :: r, p, 0, x, _, h => by
    have e : y = x := by simpa using h
    rw [e, ix, show strEq x x = true from by unfold strEq; simp, cond_true]
  | y :: r, p, i + 1, x, hr, h => by
    rw [risingR, Bool.and_eq_true, Bool.and_eq_true] at hr
    have h' : r[i]? = some x := by simpa using h
    have hlt := rising_gt hr.2 x (List.mem_of_getElem? h')
    have hne : strEq y x = false := by
      cases he : strEq y x with
      | false => rfl
      | true =>
        unfold strEq at he
        unfold strLt at hlt
        rw [eq_of_beq he, bLess_irr] at hlt; cases hlt
    rw [ix, hne, cond_false, ix_rising hr.2 h']; rfl
theorem field_at {a t : Ty} {i : Nat} (hr : risingR a.labels none = true) (h8 : a.k = 8) (hi : i < a.labels.length) (ht : a.args[i]? = some t) : fieldT a (a.labels.getD i ByteArray.empty) = some t := by
  unfold fieldT
  rw [h8, eqd_self, cond_true, ix_rising hr (show a.labels[i]? = some (a.labels.getD i ByteArray.empty) from by rw [List.getD_eq_getElem?_getD, List.getElem?_eq_getElem hi]; rfl)]
  exact ht
theorem fieldT_mem {t u : Ty} {x : ByteArray} (h : fieldT t x = some u) : u ∈ t.args ∧ t.k = 8 := by
  unfold fieldT at h
  cases hk : eqd t.k 8 with
  | false => rw [hk] at h; cases h
  | true =>
    rw [hk, cond_true, Option.bind_eq_some_iff] at h
    obtain ⟨i, _, h⟩ := h
    exact ⟨List.mem_of_getElem? h, eqd_iff.1 hk⟩
/-- One type is another one with some parts put out. -/
inductive Ls : Ty → Ty → Prop
  | dyn {a x : Ty} (h : x = dynT) : Ls a x
  | alike {a x : Ty} (hk : a.k = x.k) (hn : a.n = x.n) (hs : a.name = x.name) (hl : a.labels = x.labels) (ha : a.args.length = x.args.length) (h : ∀ (i : Nat) (t u : Ty), a.args[i]? = some t → x.args[i]? = some u → Ls t u) : Ls a x
theorem arg_size {t u : Ty} (hu : u ∈ t.args) : SizeOf.sizeOf u < SizeOf.sizeOf t := by
  have := List.sizeOf_lt_of_mem hu
  cases t; simp only [Ty.mk.sizeOf_spec] at *; omega
theorem rightL_of' : ∀ {l : List Ty}, (∀ x ∈ l, x.right = true) → Ty.rightL l = true
  | [], _ => by rw [Ty.rightL]
  | y :: r, h => by rw [Ty.rightL, h y List.mem_cons_self, rightL_of' fun x hx => h x (List.mem_cons_of_mem _ hx)]; rfl
theorem Ls.right {a x : Ty} (h : Ls a x) : a.right = true → x.right = true := by
  induction h with
  | dyn e => intro _; rw [e]; exact dynT_right
  | @alike a x hk hn hs hl ha h ih =>
    intro ra
    have ra' := ra
    rw [Ty.right_eq, Bool.and_eq_true] at ra'
    rw [Ty.right_eq, Bool.and_eq_true, ← hk, ← hn, ← hs, ← hl, ← ha]
    refine ⟨rightL_of' fun u hu => ?_, ra'.2⟩
    obtain ⟨i, hi⟩ := List.mem_iff_getElem?.1 hu
    have hi' : i < a.args.length := by have := (List.getElem?_eq_some_iff.1 hi).1; omega
    exact ih i _ u (List.getElem?_eq_getElem hi') hi (right_arg ra (List.getElem_mem hi'))
theorem right_leaf {a : Ty} (h : a.right = true) (h7 : a.k ≠ 7) (h8 : a.k ≠ 8) : a.args = [] := by
  rw [Ty.right_eq, Bool.and_eq_true] at h
  have h2 := h.2
  unfold nodeR at h2
  simp only [Bool.and_eq_true] at h2
  have h3 := h2.2
  have e7 : (a.k == 7) = false := by simpa using h7
  have e8 : (a.k == 8) = false := by simpa using h8
  rw [e7, e8] at h3
  refine List.eq_nil_of_length_eq_zero ?_
  cases c1 : decide (a.k ≥ 1) && decide (a.k ≤ 5) with
  | true => rw [c1, cond_true, beq_iff_eq] at h3; omega
  | false =>
    rw [c1, cond_false] at h3
    cases c2 : a.k == 6 with
    | true => rw [c2, cond_true, Bool.and_eq_true, beq_iff_eq, beq_iff_eq] at h3; omega
    | false =>
      rw [c2, cond_false] at h3
      cases c3 : a.k == 9 with
      | true => rw [c3, cond_true] at h3; simp only [Bool.and_eq_true, beq_iff_eq] at h3; omega
      | false => rw [c3] at h3; simp at h3
theorem Ls.kind {a x : Ty} (h : Ls a x) : x = dynT ∨ a.k = x.k := by
  cases h with
  | dyn e => exact .inl e
  | alike hk _ _ _ _ _ => exact .inr hk
theorem Ls.args {a x : Ty} (h : Ls a x) (hx : x.loose = false) : a.k = x.k ∧ a.labels = x.labels ∧ a.args.length = x.args.length ∧ ∀ (i : Nat) (t u : Ty), a.args[i]? = some t → x.args[i]? = some u → Ls t u := by
  cases h with
  | dyn e => rw [e, dynT_loose] at hx; cases hx
  | alike hk _ _ hl ha h => exact ⟨hk, hl, ha, h⟩
noncomputable def alikeB (a b : Ty) : Bool := eqd a.k b.k && (eqd a.n b.n && (eqd a.name b.name && (eqd a.labels b.labels && eqd a.args.length b.args.length)))
/-- The same, but for functions. -/
theorem Ls.refl' : ∀ (m : Nat) (a : Ty), SizeOf.sizeOf a < m → Ls a a
  | 0, a, h => by omega
  | m + 1, a, h => .alike rfl rfl rfl rfl rfl fun i t u h1 h2 => by
    rw [h1] at h2
    rw [← Option.some.inj h2]
    have := arg_size (List.mem_of_getElem? h1)
    exact Ls.refl' m t (by omega)
theorem Ls.refl (a : Ty) : Ls a a := Ls.refl' _ a (Nat.lt_succ_self _)
end Go.Sh.T

/- The law MatchServes. -/
namespace Go.Sh.T
open Go Go.Sh
set_option linter.unusedSimpArgs false
set_option linter.unusedVariables false
set_option maxRecDepth 100000

theorem zeroT_ok : zeroT.Ok := .mk (show (Lit.int .i64 0).wf = true by decide) (show (Lit.int .i64 0).wf = true by decide) (Nat.zero_le _) (Nat.zero_le _) (fun _ h => by cases h) (Nat.zero_le _) (fun _ h => by cases h)
theorem recT1_ok {x : ByteArray} (hx : x.size ≤ maxLen) {u : Ty} (ou : u.Ok) : (recT1 x u).Ok := .mk (show (Lit.int .i64 8).wf = true by decide) (show (Lit.int .i64 0).wf = true by decide) (Nat.zero_le _) (show 1 ≤ maxLen by decide) (fun s h => by
  have : s ∈ [x] := h
  rw [List.mem_singleton.1 this]; exact hx) (show 1 ≤ maxLen by decide) (fun s h => by
  have : s ∈ [u] := h
  rw [List.mem_singleton.1 this]; exact ou)
theorem fnT_ok {a b : Ty} (oa : a.Ok) (ob : b.Ok) : (fnT a b).Ok := .mk (show (Lit.int .i64 7).wf = true by decide) (show (Lit.int .i64 0).wf = true by decide) (Nat.zero_le _) (Nat.zero_le _) (fun _ h => by cases h) (show 2 ≤ maxLen by decide) (fun s h => by
  have : s ∈ [a, b] := h
  rcases List.mem_cons.1 this with e | e
  · rw [e]; exact oa
  · rw [List.mem_singleton.1 e]; exact ob)
theorem fnT_right {a b : Ty} (ra : a.right = true) (rb : b.right = true) : (fnT a b).right = true := by
  rw [Ty.right_eq, show (fnT a b).args = [a, b] from rfl, Ty.rightL, Ty.rightL, Ty.rightL, ra, rb]
  show nodeR 7 0 ByteArray.empty [] 2 = true
  decide +kernel
theorem fieldT_rec1 (x : ByteArray) (u : Ty) : fieldT (recT1 x u) x = some u := by
  unfold fieldT
  rw [show eqd (recT1 x u).k 8 = true from eqd_self _, cond_true, show (recT1 x u).labels = [x] from rfl, ix, show strEq x x = true from by unfold strEq; simp]
  rfl
/-- As which record does it serve, and what is the field's type? -/
noncomputable def fieldM (d : List Bind) (t : Ty) (x : ByteArray) : Option (Ty × Ty) := bif (t.right && (upT d t).1.right) && (kindR x == 1) then (bif eqd (upT d t).1.k 5 then some (recT1 x (upT d t).1, (upT d t).1) else bif eqd (upT d t).1.k 8 then (fieldT (upT d t).1 x).map (fun f => ((upT d t).1, f)) else none) else none
theorem field19 (d : List Bind) (hd : d.length ≤ maxLen) (od : ∀ b ∈ d, b.Ok) (t : Ty) (ot : t.Ok) (x : ByteArray) (hx : x.size ≤ maxLen) (h : Heap) : evw E 54 [.sl 6 (d.map Bind.cells), .agg t.cells, .lit (.string x)] h = some (.ret (.tup [.agg ((fieldM d t x).getD (zeroT, zeroT)).1.cells, .agg ((fieldM d t x).getD (zeroT, zeroT)).2.cells, .lit (.bool (fieldM d t x).isSome)]), h) := by
  have ou := upT_ok od ot
  refine evw_run primsC 0 rfl rfl rfl ?_
  rw [nf54, aggS, bind_some', Ty.cells_len, b5, condT, Ty.refold, behind72 d hd od t ot, onOut_ret, tupS, bind_some', t20, bind_some', bind_some', t21, bind_some', aggS, bind_some', Ty.cells_len, b5, condT, notB, bind_some', boolB, bind_some', Ty.refold, ← zeroT_cells, pfine_spec, onOut_ret, notB, bind_some', boolB, bind_some', eT, eqlE, bind_some', boolB, bind_some', eT, eqlE, bind_some', boolB, bind_some', show AV.one (.lit (.string x)) = true from rfl, condT]
  unfold fieldM
  generalize (upT d t).1 = u at *
  cases t.right && u.right with
  | false => rfl
  | true =>
  rw [Bool.not_true, condF, Bool.true_and]
  have hrec := rec62 x u h
  cases hk : kindR x == 1 with
  | false => rfl
  | true =>
  rw [hk, cond_true] at hrec
  rw [Bool.not_true, condF, cond_true]
  cases eqd u.k 5 with
  | true =>
    have hf := field174 (recT1 x u) (recT1_ok hx ou) x h
    rw [fieldT_rec1] at hf
    have re5 : ([u.cells.getD 0 .dead, u.cells.getD 1 .dead, u.cells.getD 2 .dead, u.cells.getD 3 .dead, u.cells.getD 4 .dead] : List AV) = u.cells := Ty.refold u
    rw [condT, hrec, onOut_ret, tupS, bind_some', t20, bind_some', bind_some', t21, bind_some', aggS, bind_some', Ty.cells_len, b5, condT, Ty.refold, hf, onOut_ret, tupS, bind_some', t20, bind_some', bind_some', t21, bind_some', aggS, bind_some', Ty.cells_len, b5, condT, boolB, bind_some', Ty.refold]
    rfl
  | false =>
    rw [condF, cond_false]
    cases eqd u.k 8 with
    | false => rfl
    | true =>
      rw [condT, cond_true, field174 u ou x, onOut_ret, tupS, bind_some', t20, bind_some', bind_some', t21, bind_some', aggS, bind_some', Ty.cells_len, b5, condT, boolB, bind_some', Ty.refold]
      cases fieldT u x <;> rfl

/- the reference's bounds: right -/
theorem take22 (d : List Bind) (i : Nat) (h : i ≤ d.length) : sliceA E 22 (.sl 6 (d.map Bind.cells)) none (some (.lit (.int .i64 (i : Int)))) = some (.sl 6 ((d.take i).map Bind.cells)) := by
  have e1 : isStr E 22 = false := by kernel_rfl
  have e2 : elemSize E 22 = some 6 := by kernel_rfl
  unfold sliceA
  simp only [e1, e2, condF, bndO, intOf, slOf, Option.bind_some, show Nat.beq 6 6 = true from rfl, condT, List.length_map]
  rw [decide_eq_true (show (0 : Int) ≤ 0 by omega), decide_eq_true (show (0 : Int) ≤ (i : Int) by omega), decide_eq_true (show (i : Int) ≤ (d.length : Int) by omega)]
  simp only [Bool.true_and, condT, Int.toNat_natCast]
  rw [List.map_take]; rfl
/- may be below: itself -/
end Go.Sh.T
