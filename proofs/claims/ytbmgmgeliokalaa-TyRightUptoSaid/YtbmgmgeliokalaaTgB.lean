/- TgB: part of the proof: a shadow of the machine that is proved sound, and what the functions of this seat compute. Conditions: none. -/
import Derived.Test.YtbmgmgeliokalaaTgT
import Derived.Test.YtbmgmgeliokalaaTgA
set_option linter.unusedSimpArgs false
namespace Go.Sh.T
set_option linter.unusedSimpArgs false
open Go Go.Sh

theorem lenA23 (es : List (List AV)) : lenA E 23 (.sl 5 es) = some (es.length : Int) := (Eq.refl _).trans (by kernel_rfl)


theorem nodes_spec : ∀ (t : Ty) (h : Heap), t.Ok → evw E 12 [.agg t.cells] h = some (.ret (.lit (.int .i64 t.nodes)), h)
  | t, h, ok => by
    have loop : ∀ (m i : Nat) (acc : Int), i ≤ t.args.length → t.args.length < m + i → Lp12_0 (evw E) (t.args.length + 1) h m h (.lit (.int .i64 t.k)) (.lit (.int .i64 t.n)) (.lit (.string t.name)) (.sl 1 (t.labels.map strC)) (.sl 5 (t.args.map Ty.cells)) (.lit (.int .i64 acc)) (.lit (.int .i64 (i : Int))) = some (.ret (.lit (.int .i64 (Ty.nodesL acc (t.args.drop i)))), h) := by
      intro m
      induction m with
      | zero => intro i acc h1 h2; omega
      | succ m ih =>
        intro i acc h1 h2
        have hlen := ok.len
        rw [Lp12_0_succ]
        simp only [lenA23, bind_some', bin_int, intBin, boolOf, List.length_map]
        by_cases hi : i < t.args.length
        · have hrec := nodes_spec (t.args[i]) h (ok.arg (List.getElem_mem hi))
          simp only [show decide ((i : Int) < (t.args.length : Int)) = true from by simpa using hi, cond_true, indexA_map _ _ _ _ hi, bind_some', partA_full (Ty.cells_len _), hrec, onOut_ret, bin_int, inc (i := i) (by omega)]
          simp only [intBin, bind_some']
          rw [IntWalk.i64_in ((i : Int) + 1) (by omega), nodesL_step hi]
          exact ih (i + 1) _ hi (by omega)
        · simp only [show decide ((i : Int) < (t.args.length : Int)) = false from by simpa using hi, cond_false]
          rw [List.drop_of_length_le (by omega), Ty.nodesL]
    refine evw_run primsC (t.args.length + 1) rfl rfl rfl ?_
    rw [nf12]
    simp only [aggOf, bind_some', Ty.cells_len, Ty.c0, Ty.c1, Ty.c2, Ty.c3, Ty.c4]
    have := loop (t.args.length + 1) 0 1 (Nat.zero_le _) (by omega)
    rw [List.drop_zero] at this
    have e : t.nodes = Ty.nodesL 1 t.args := by cases t; rw [Ty.nodes]
    rw [e]
    exact this
  termination_by t => SizeOf.sizeOf t
  decreasing_by exact Ty.size_arg hi
end Go.Sh.T

namespace Go.Sh.T
open Go Go.Sh

theorem ty3 : E.ty 3 = some ti3 := by kernel_rfl
theorem ty9 : E.ty 9 = some ti9 := by kernel_rfl
theorem ty23 : E.ty 23 = some ti23 := by kernel_rfl
theorem ty22 : E.ty 22 = some ti22 := by kernel_rfl
theorem ty25 : E.ty 25 = some ti25 := by kernel_rfl

theorem int_of {t : TypeId} {vs : List AV} (h : TypedC E t vs) (e : E.ty t = some ti3) : ∃ n, vs = [.lit (.int .i64 n)] ∧ (Lit.int .i64 n).wf = true := by
  cases h with
  | bool h hd b => rw [e] at h; cases h; cases hd
  | int h hd hw => rw [e] at h; cases h; cases hd; exact ⟨_, rfl, hw⟩
  | str h hd hs => rw [e] at h; cases h; cases hd
  | sl h hd hj hl hes => rw [e] at h; cases h; cases hd
  | struct h hd hf => rw [e] at h; cases h; cases hd

theorem str_of {t : TypeId} {vs : List AV} (h : TypedC E t vs) (e : E.ty t = some ti9) : ∃ s, vs = strC s ∧ s.size ≤ maxLen := by
  cases h with
  | bool h hd b => rw [e] at h; cases h; cases hd
  | int h hd hw => rw [e] at h; cases h; cases hd
  | str h hd hs => exact ⟨_, rfl, hs⟩
  | sl h hd hj hl hes => rw [e] at h; cases h; cases hd
  | struct h hd hf => rw [e] at h; cases h; cases hd

theorem strs_of : ∀ {es : List (List AV)}, TypedE E 9 es → ∃ l : List ByteArray, es = l.map strC ∧ ∀ s ∈ l, s.size ≤ maxLen
  | [], _ => ⟨[], rfl, fun _ h => by cases h⟩
  | _ :: _, .cons h hr => by
    obtain ⟨s, rfl, hs⟩ := str_of h ty9
    obtain ⟨l, rfl, hl⟩ := strs_of hr
    exact ⟨s :: l, rfl, fun x hx => by
      rcases List.mem_cons.1 hx with e | e
      · rw [e]; exact hs
      · exact hl x e⟩

theorem labels_of {vs : List AV} (h : TypedC E 22 vs) : ∃ l : List ByteArray, vs = [.sl 1 (l.map strC)] ∧ l.length ≤ maxLen ∧ ∀ s ∈ l, s.size ≤ maxLen := by
  cases h with
  | bool h hd b => rw [ty22] at h; cases h; cases hd
  | int h hd hw => rw [ty22] at h; cases h; cases hd
  | str h hd hs => rw [ty22] at h; cases h; cases hd
  | sl h hd hj hl hes =>
    rw [ty22] at h; cases h; cases hd
    rw [ty9] at hj; cases hj
    obtain ⟨l, rfl, hs⟩ := strs_of hes
    exact ⟨l, rfl, by simpa using hl, hs⟩
  | struct h hd hf => rw [ty22] at h; cases h; cases hd

theorem ty_fuel : ∀ n : Nat, (∀ vs : List AV, SizeOf.sizeOf vs < n → TypedC E 25 vs → ∃ x : Ty, vs = x.cells ∧ x.Ok) ∧ (∀ es : List (List AV), SizeOf.sizeOf es < n → TypedE E 25 es → ∃ l : List Ty, es = l.map Ty.cells ∧ ∀ x ∈ l, x.Ok)
  | 0 => ⟨fun _ h => by omega, fun _ h => by omega⟩
  | n + 1 => by
    obtain ⟨ihC, ihE⟩ := ty_fuel n
    refine ⟨fun vs hlt h => ?_, fun es hlt h => ?_⟩
    · cases h with
      | bool h hd b => rw [ty25] at h; cases h; cases hd
      | int h hd hw => rw [ty25] at h; cases h; cases hd
      | str h hd hs => rw [ty25] at h; cases h; cases hd
      | sl h hd hj hl hes => rw [ty25] at h; cases h; cases hd
      | struct h hd hf =>
        rw [ty25] at h; cases h; cases hd
        cases hf with
        | cons h1 hf =>
          cases hf with
          | cons h2 hf =>
            cases hf with
            | cons h3 hf =>
              cases hf with
              | cons h4 hf =>
                cases hf with
                | cons h5 hf =>
                  cases hf
                  obtain ⟨k, rfl, hk⟩ := int_of h1 ty3
                  obtain ⟨m, rfl, hn⟩ := int_of h2 ty3
                  obtain ⟨s, rfl, hs⟩ := str_of h3 ty9
                  obtain ⟨ls, rfl, hl, hls⟩ := labels_of h4
                  cases h5 with
                  | bool h hd b => rw [ty23] at h; cases h; cases hd
                  | int h hd hw => rw [ty23] at h; cases h; cases hd
                  | str h hd hs => rw [ty23] at h; cases h; cases hd
                  | struct h hd hf => rw [ty23] at h; cases h; cases hd
                  | sl h hd hj hl5 hes =>
                    rw [ty23] at h; cases h; cases hd
                    rw [ty25] at hj; cases hj
                    obtain ⟨xs, rfl, hx⟩ := ihE _ (by
                      simp only [strC, List.flatten_cons, List.flatten_nil, List.cons_append, List.nil_append, List.cons.sizeOf_spec, AV.sl.sizeOf_spec] at hlt
                      omega) hes
                    exact ⟨⟨k, m, s, ls, xs⟩, by rw [Ty.cells_eq]; rfl, .mk hk hn hs hl hls (by simpa using hl5) hx⟩
    · cases h with
      | nil => exact ⟨[], rfl, fun _ h => by cases h⟩
      | cons h hr =>
        simp only [List.cons.sizeOf_spec] at hlt
        obtain ⟨x, rfl, hx⟩ := ihC _ (by omega) h
        obtain ⟨l, rfl, hl⟩ := ihE _ (by omega) hr
        exact ⟨x :: l, rfl, fun y hy => by
          rcases List.mem_cons.1 hy with e | e
          · rw [e]; exact hx
          · exact hl y e⟩

theorem ty_of {vs : List AV} (h : TypedC E 25 vs) : ∃ x : Ty, vs = x.cells ∧ x.Ok := (ty_fuel _).1 vs (Nat.lt_succ_self _) h
end Go.Sh.T

namespace Go.Sh.T
open Go Go.Sh
set_option linter.unusedSimpArgs false

theorem has_spec : ∀ (t : Ty) (k : Int) (h : Heap), t.Ok → evw E 16 [.agg t.cells, .lit (.int .i64 k)] h = some (.ret (.lit (.bool (t.has k))), h)
  | t, k, h, ok => by
    have loop : ∀ (m i : Nat), i ≤ t.args.length → t.args.length < m + i → Lp16_0 (evw E) (t.args.length + 1) h m h (.lit (.int .i64 k)) (.lit (.int .i64 t.k)) (.lit (.int .i64 t.n)) (.lit (.string t.name)) (.sl 1 (t.labels.map strC)) (.sl 5 (t.args.map Ty.cells)) (.lit (.int .i64 (i : Int))) = some (.ret (.lit (.bool (Ty.hasL k (t.args.drop i)))), h) := by
      intro m
      induction m with
      | zero => intro i h1 h2; omega
      | succ m ih =>
        intro i h1 h2
        have hlen := ok.len
        rw [Lp16_0_succ]
        simp only [lenA23, bind_some', bin_int, intBin, boolOf, List.length_map]
        by_cases hi : i < t.args.length
        · have hrec := has_spec (t.args[i]) k h (ok.arg (List.getElem_mem hi))
          simp only [show decide ((i : Int) < (t.args.length : Int)) = true from by simpa using hi, cond_true, indexA_map _ _ _ _ hi, bind_some', partA_full (Ty.cells_len _), hrec, onOut_ret, bin_int, intBin, boolOf]
          rw [List.drop_eq_getElem_cons hi, Ty.hasL, IntWalk.i64_in ((i : Int) + 1) (by omega)]
          cases e : (t.args[i]).has k with
          | true => rfl
          | false => exact ih (i + 1) hi (by omega)
        · simp only [show decide ((i : Int) < (t.args.length : Int)) = false from by simpa using hi, cond_false]
          rw [List.drop_of_length_le (by omega), Ty.hasL]
    refine evw_run primsC (t.args.length + 1) rfl rfl rfl ?_
    rw [nf16]
    simp only [aggOf, bind_some', Ty.cells_len, Ty.c0, Ty.c1, Ty.c2, Ty.c3, Ty.c4, bin_int, intBin, boolOf, show Nat.beq 5 5 = true from rfl, cond_true]
    rw [Ty.has_eq]
    cases e : t.k == k with
    | true => rfl
    | false =>
      have := loop (t.args.length + 1) 0 (Nat.zero_le _) (by omega)
      rw [List.drop_zero] at this
      exact this
  termination_by t => SizeOf.sizeOf t
  decreasing_by exact Ty.size_arg hi

mutual
def Ty.ahead (n : Int) : Ty → Bool
  | ⟨k, m, _, _, xs⟩ => !(k == 9 && decide (m ≥ n)) && Ty.aheadL n xs
def Ty.aheadL (n : Int) : List Ty → Bool
  | [] => true
  | t :: r => t.ahead n && Ty.aheadL n r
end
end Go.Sh.T

namespace Go.Sh.T
open Go Go.Sh
set_option linter.unusedSimpArgs false

def strEq (x y : ByteArray) : Bool := x.toList == y.toList
def sameS : List ByteArray → List ByteArray → Bool
  | [], _ => true
  | _, [] => true
  | x :: l, y :: m => strEq x y && sameS l m

theorem lenA22 (es : List (List AV)) : lenA E 22 (.sl 1 es) = some (es.length : Int) := (Eq.refl _).trans (by kernel_rfl)
theorem bin_str (T : TypeId) (op : BinOp) (x y : ByteArray) : binAV E op T (.lit (.string x)) (.lit (.string y)) = strBin op x y := (Eq.refl _).trans rfl
theorem part_str (s : ByteArray) : partA false 1 0 (strC s) = some (.lit (.string s)) := (Eq.refl _).trans rfl

theorem same79 (l m : List ByteArray) (hl : l.length ≤ maxLen) (h : Heap) : evw E 17 [.sl 1 (l.map strC), .sl 1 (m.map strC)] h = some (.ret (.lit (.bool (decide (l.length = m.length) && sameS l m))), h) := by
  have hl : l.length ≤ 9223372036854775807 := hl
  have loop : ∀ (q i : Nat), i ≤ l.length → l.length < q + i → Lp17_0 (evw E) (l.length + 1) h q h (.sl 1 (l.map strC)) (.sl 1 (m.map strC)) (.lit (.int .i64 (i : Int))) = some (.ret (.lit (.bool (sameS (l.drop i) (m.drop i)))), h) := by
    intro q
    induction q with
    | zero => intro i h1 h2; omega
    | succ q ih =>
      intro i h1 h2
      rw [Lp17_0_succ]
      simp only [lenA22, bind_some', bin_int, intBin, boolOf, List.length_map]
      by_cases hi : i < l.length
      · simp only [show decide ((i : Int) < (l.length : Int)) = true from by simpa using hi, cond_true]
        by_cases hj : i < m.length
        · simp only [show decide ((i : Int) < (m.length : Int)) = true from by simpa using hj, cond_true, indexA_map _ _ _ _ hi, indexA_map _ _ _ _ hj, bind_some', part_str, bin_str, strBin, boolOf]
          rw [List.drop_eq_getElem_cons hi, List.drop_eq_getElem_cons hj, sameS, IntWalk.i64_in ((i : Int) + 1) (by omega)]
          unfold strEq
          cases e : l[i].toList == m[i].toList with
          | false => rfl
          | true => exact ih (i + 1) hi (by omega)
        · simp only [show decide ((i : Int) < (m.length : Int)) = false from by simpa using hj, cond_false]
          rw [show m.drop i = [] from List.drop_eq_nil_of_le (by omega)]
          cases l.drop i <;> rfl
      · simp only [show decide ((i : Int) < (l.length : Int)) = false from by simpa using hi, cond_false]
        rw [show l.drop i = [] from List.drop_eq_nil_of_le (by omega)]
        rfl
  refine evw_run primsC (l.length + 1) rfl rfl rfl ?_
  rw [nf17]
  simp only [lenA22, bind_some', bin_int, intBin, boolOf, List.length_map]
  have hx : ((l.length : Int) != (m.length : Int)) = !decide (l.length = m.length) := by
    by_cases e : l.length = m.length
    · simp [e]
    · have : (l.length : Int) ≠ (m.length : Int) := by omega
      simp [e, this]
  rw [hx]
  cases e : decide (l.length = m.length) with
  | false => rfl
  | true =>
    have := loop (l.length + 1) 0 (Nat.zero_le _) (by omega)
    rw [show ((0 : Nat) : Int) = 0 from rfl, List.drop_zero, List.drop_zero] at this
    simp only [Bool.not_true, cond_false, Bool.true_and]
    exact this
end Go.Sh.T

namespace Go.Sh.T
open Go Go.Sh
set_option linter.unusedSimpArgs false

mutual
def Ty.same : Ty → Ty → Bool
  | ⟨k, n, s, ls, xs⟩, u => !(k != u.k) && !(n != u.n) && strEq s u.name && (decide (ls.length = u.labels.length) && sameS ls u.labels) && decide (xs.length = u.args.length) && Ty.sameL xs u.args
def Ty.sameL : List Ty → List Ty → Bool
  | [], _ => true
  | t :: r, m => match m with
    | [] => true
    | u :: m => Ty.same t u && Ty.sameL r m
end
theorem Ty.same_eq (t u : Ty) : t.same u = (!(t.k != u.k) && !(t.n != u.n) && strEq t.name u.name && (decide (t.labels.length = u.labels.length) && sameS t.labels u.labels) && decide (t.args.length = u.args.length) && Ty.sameL t.args u.args) := by
  cases t; rw [Ty.same]
theorem Ty.sameL_nil (l : List Ty) : Ty.sameL l [] = true := by cases l <;> rw [Ty.sameL]

theorem Ty.Ok.lab {t : Ty} (h : t.Ok) : t.labels.length ≤ maxLen := by cases h with | mk _ _ _ hl _ _ _ => exact hl

theorem same_spec : ∀ (t u : Ty) (h : Heap), t.Ok → evw E 23 [.agg t.cells, .agg u.cells] h = some (.ret (.lit (.bool (t.same u))), h)
  | t, u, h, ok => by
    have loop : ∀ (q i : Nat), i ≤ t.args.length → t.args.length < q + i → Lp23_0 (evw E) (t.args.length + 1) h q h (.lit (.int .i64 t.k)) (.lit (.int .i64 t.n)) (.lit (.string t.name)) (.sl 1 (t.labels.map strC)) (.sl 5 (t.args.map Ty.cells)) (.lit (.int .i64 u.k)) (.lit (.int .i64 u.n)) (.lit (.string u.name)) (.sl 1 (u.labels.map strC)) (.sl 5 (u.args.map Ty.cells)) (.lit (.int .i64 (i : Int))) = some (.ret (.lit (.bool (Ty.sameL (t.args.drop i) (u.args.drop i)))), h) := by
      intro q
      induction q with
      | zero => intro i h1 h2; omega
      | succ q ih =>
        intro i h1 h2
        have hlen := ok.len
        rw [Lp23_0_succ]
        simp only [lenA23, bind_some', bin_int, intBin, boolOf, List.length_map]
        by_cases hi : i < t.args.length
        · simp only [show decide ((i : Int) < (t.args.length : Int)) = true from by simpa using hi, cond_true]
          by_cases hj : i < u.args.length
          · have hrec := same_spec (t.args[i]) (u.args[i]) h (ok.arg (List.getElem_mem hi))
            simp only [show decide ((i : Int) < (u.args.length : Int)) = true from by simpa using hj, cond_true, indexA_map _ _ _ _ hi, indexA_map _ _ _ _ hj, bind_some', partA_full (Ty.cells_len _), hrec, onOut_ret, unAV, boolOf]
            rw [List.drop_eq_getElem_cons hi, List.drop_eq_getElem_cons hj, Ty.sameL, IntWalk.i64_in ((i : Int) + 1) (by omega)]
            cases e : (t.args[i]).same (u.args[i]) with
            | false => rfl
            | true => exact ih (i + 1) hi (by omega)
          · simp only [show decide ((i : Int) < (u.args.length : Int)) = false from by simpa using hj, cond_false]
            rw [show u.args.drop i = [] from List.drop_eq_nil_of_le (by omega), Ty.sameL_nil]
        · simp only [show decide ((i : Int) < (t.args.length : Int)) = false from by simpa using hi, cond_false]
          rw [show t.args.drop i = [] from List.drop_eq_nil_of_le (by omega), Ty.sameL]
    refine evw_run primsC (t.args.length + 1) rfl rfl rfl ?_
    rw [nf23]
    simp only [aggOf, bind_some', Ty.cells_len, Ty.c0, Ty.c1, Ty.c2, Ty.c3, Ty.c4, bin_int, intBin, bin_str, strBin, boolOf, show Nat.beq 5 5 = true from rfl, cond_true, same79 _ _ ok.lab, onOut_ret, unAV, lenA23, List.length_map]
    rw [Ty.same_eq]
    have hx : ((t.args.length : Int) != (u.args.length : Int)) = !decide (t.args.length = u.args.length) := by
      by_cases e : t.args.length = u.args.length
      · simp [e]
      · have : (t.args.length : Int) ≠ (u.args.length : Int) := by omega
        simp [e, this]
    have hl := loop (t.args.length + 1) 0 (Nat.zero_le _) (by omega)
    rw [show ((0 : Nat) : Int) = 0 from rfl, List.drop_zero, List.drop_zero] at hl
    rw [hx, hl]
    unfold strEq
    cases t.k != u.k <;> cases t.n != u.n <;> cases t.name.toList == u.name.toList <;> cases (decide (t.labels.length = u.labels.length) && sameS t.labels u.labels) <;> cases decide (t.args.length = u.args.length) <;> rfl
  termination_by t => SizeOf.sizeOf t
  decreasing_by exact Ty.size_arg hi
end Go.Sh.T

namespace Go.Sh.T
open Go Go.Sh
set_option linter.unusedSimpArgs false
set_option linter.unusedVariables false

theorem cond_split {α : Type} {b : Bool} {x y z : α} (h1 : b = true → x = z) (h2 : b = false → y = z) : cond b x y = z := by
  cases b with
  | true => exact h1 rfl
  | false => exact h2 rfl
theorem cond_ret (b : Bool) (x y : Value) (h : Heap) : cond b (some (Out.ret (.lit x), h)) (some (.ret (.lit y), h)) = some (.ret (.lit (cond b x y)), h) := by cases b <;> rfl

theorem lenS (s : ByteArray) : lenA E 9 (.lit (.string s)) = some (s.size : Int) := (Eq.refl _).trans (by kernel_rfl)
theorem indexS_at (s : ByteArray) (i : Nat) (h : i < (bytes s).length) : indexS (.lit (.string s)) (.lit (.int .i64 (i : Int))) = some (.lit (.int .u8 ((bytes s)[i].toNat : Int))) := by
  unfold indexS
  simp only [strOf, numOf, Option.bind_some, show decide ((0 : Int) ≤ (i : Int)) = true from by simp, cond_true, Int.toNat_natCast]
  have h' : i < s.size := by rw [← bytes_len]; exact h
  rw [getElem?_pos s i h']
  rfl

/- low, up, digit -/
theorem low_spec (c : Int) (h : Heap) : evw E 61 [.lit (.int .u8 c)] h = some (.ret (.lit (.bool (lowB c))), h) := by
  refine evw_run primsC 0 rfl rfl rfl ?_
  rw [nf61]; simp only [bin_int, intBin, bind_some', boolOf, cond_ret, lowB]; cases decide (c ≥ 97) <;> rfl
theorem up_spec (c : Int) (h : Heap) : evw E 62 [.lit (.int .u8 c)] h = some (.ret (.lit (.bool (upB c))), h) := by
  refine evw_run primsC 0 rfl rfl rfl ?_
  rw [nf62]; simp only [bin_int, intBin, bind_some', boolOf, cond_ret, upB]; cases decide (c ≥ 65) <;> rfl
theorem dig_spec (c : Int) (h : Heap) : evw E 63 [.lit (.int .u8 c)] h = some (.ret (.lit (.bool (digB c))), h) := by
  refine evw_run primsC 0 rfl rfl rfl ?_
  rw [nf63]; simp only [bin_int, intBin, bind_some', boolOf, cond_ret, digB]; cases decide (c ≥ 48) <;> rfl

/- kept -/
def keys3 : List ByteArray := [⟨#[108, 101, 116]⟩, ⟨#[105, 110]⟩, ⟨#[105, 102]⟩, ⟨#[116, 104, 101, 110]⟩, ⟨#[101, 108, 115, 101]⟩, ⟨#[102, 110]⟩, ⟨#[99, 97, 108, 108]⟩, ⟨#[100, 101, 102]⟩, ⟨#[116, 114, 117, 101]⟩, ⟨#[102, 97, 108, 115, 101]⟩]
def keys4 : List ByteArray := [⟨#[73, 110, 116]⟩, ⟨#[66, 111, 111, 108]⟩, ⟨#[83, 116, 114, 105, 110, 103]⟩, ⟨#[84, 111, 112]⟩]
def keptR (s : ByteArray) : Int := bif keys3.any (fun k => strEq k s) then 3 else bif keys4.any (fun k => strEq k s) then 4 else 0

theorem kept_spec (s : ByteArray) (h : Heap) : evw E 60 [.lit (.string s)] h = some (.ret (.lit (.int .i64 (keptR s))), h) := by
  have loop1 : ∀ (l : List ByteArray) (q i : Nat), l.length ≤ 10 → i ≤ l.length → l.length < q + i → Lp60_1 (evw E) 20 h q h (.lit (.string s)) (l.map strC) (.lit (.int .i64 (i : Int))) = some (.ret (.lit (.int .i64 (bif (l.drop i).any (fun k => strEq k s) then 4 else 0))), h) := by
    intro l q
    induction q with
    | zero => intro i h1 h2; omega
    | succ q ih =>
      intro i h0 h1 h2
      rw [Lp60_1_succ]
      simp only [lenA22, bind_some', bin_int, intBin, boolOf, List.length_map]
      by_cases hi : i < l.length
      · simp only [show decide ((i : Int) < (l.length : Int)) = true from by simpa using hi, cond_true, indexA_map _ _ _ _ hi, bind_some', part_str, bin_str, strBin, boolOf]
        rw [List.drop_eq_getElem_cons hi, List.any_cons, IntWalk.i64_in ((i : Int) + 1) (by omega)]
        unfold strEq
        cases e : l[i].toList == s.toList with
        | true => rfl
        | false => exact ih (i + 1) h0 hi (by omega)
      · simp only [show decide ((i : Int) < (l.length : Int)) = false from by simpa using hi, cond_false]
        rw [show l.drop i = [] from List.drop_eq_nil_of_le (by omega)]
        rfl
  have loop0 : ∀ (l : List ByteArray) (q i : Nat), l.length ≤ 10 → i ≤ l.length → l.length < q + i → Lp60_0 (evw E) 20 h q h (.lit (.string s)) (l.map strC) (.lit (.int .i64 (i : Int))) = some (.ret (.lit (.int .i64 (bif (l.drop i).any (fun k => strEq k s) then 3 else bif keys4.any (fun k => strEq k s) then 4 else 0))), h) := by
    intro l q
    induction q with
    | zero => intro i h1 h2; omega
    | succ q ih =>
      intro i h0 h1 h2
      rw [Lp60_0_succ]
      simp only [lenA22, bind_some', bin_int, intBin, boolOf, List.length_map]
      by_cases hi : i < l.length
      · simp only [show decide ((i : Int) < (l.length : Int)) = true from by simpa using hi, cond_true, indexA_map _ _ _ _ hi, bind_some', part_str, bin_str, strBin, boolOf]
        rw [List.drop_eq_getElem_cons hi, List.any_cons, IntWalk.i64_in ((i : Int) + 1) (by omega)]
        unfold strEq
        cases e : l[i].toList == s.toList with
        | true => rfl
        | false => exact ih (i + 1) h0 hi (by omega)
      · simp only [show decide ((i : Int) < (l.length : Int)) = false from by simpa using hi, cond_false]
        rw [show l.drop i = [] from List.drop_eq_nil_of_le (by omega)]
        exact loop1 keys4 20 0 (by decide) (by decide) (by decide)
  refine evw_run primsC 20 rfl rfl rfl ?_
  rw [nf60]
  exact loop0 keys3 20 0 (by decide) (by decide) (by decide)

/- kind -/
def badR (kind c : Int) : Bool := !digB c && !lowB c && (!upB c || kind == 1)
def kindL (kind : Int) : List UInt8 → Int
  | [] => kind
  | c :: r => bif badR kind c.toNat then 0 else kindL kind r
def kind0 (c : Int) : Int := bif upB c then 2 else bif lowB c then 1 else 0
def kindR (s : ByteArray) : Int := bif keptR s != 0 then keptR s else match bytes s with
  | [] => 0
  | c :: r => bif decide (r.length ≥ 8) then 0 else kindL (kind0 c.toNat) r

theorem kind_loop (s : ByteArray) (h : Heap) : ∀ (kind : Int) (q i : Nat), (bytes s).length ≤ 8 → i ≤ (bytes s).length → (bytes s).length < q + i → Lp52_0 (evw E) 20 h q h (.lit (.string s)) (.lit (.int .i64 kind)) (.lit (.int .i64 (i : Int))) = some (.ret (.lit (.int .i64 (kindL kind ((bytes s).drop i)))), h) := by
    intro kind q
    induction q with
    | zero => intro i h1 h2; omega
    | succ q ih =>
      intro i h0 h1 h2
      rw [Lp52_0_succ]
      simp only [lenS, ← bytes_len, bind_some', bin_int, intBin, boolOf]
      by_cases hi : i < (bytes s).length
      · simp only [show decide ((i : Int) < ((bytes s).length : Int)) = true from by simpa using hi, cond_true, indexS_at s i hi, bind_some', dig_spec, low_spec, up_spec, onOut_ret, unAV, boolOf, bin_int, intBin]
        rw [List.drop_eq_getElem_cons hi, kindL, IntWalk.i64_in ((i : Int) + 1) (by omega), badR]
        have := ih (i + 1) h0 hi (by omega)
        simp only [Int.natCast_add, Int.cast_ofNat_Int] at this
        rw [this]
        cases digB (bytes s)[i].toNat <;> cases lowB (bytes s)[i].toNat <;> cases upB (bytes s)[i].toNat <;> cases kind == 1 <;> rfl
      · simp only [show decide ((i : Int) < ((bytes s).length : Int)) = false from by simpa using hi, cond_false]
        rw [show (bytes s).drop i = [] from List.drop_eq_nil_of_le (by omega)]
        rfl
end Go.Sh.T

namespace Go.Sh.T
open Go Go.Sh
set_option linter.unusedSimpArgs false
set_option linter.unusedVariables false
theorem kind_spec (s : ByteArray) (h : Heap) : evw E 52 [.lit (.string s)] h = some (.ret (.lit (.int .i64 (kindR s))), h) := by
  have loop := kind_loop s h
  refine evw_run primsC 20 rfl rfl rfl ?_
  rw [nf52]
  simp only [kept_spec, onOut_ret, bin_int, intBin, bind_some', boolOf, lenS, ← bytes_len]
  unfold kindR
  cases e : keptR s != 0 with
  | true => rfl
  | false =>
    simp only [condF]
    cases hb : bytes s with
    | nil => rfl
    | cons c r =>
      rw [hb] at loop
      have hi0 : 0 < (bytes s).length := by rw [hb]; simp
      have h0 := indexS_at s 0 hi0
      rw [show ((0 : Nat) : Int) = 0 from rfl] at h0
      have hg : (bytes s)[0] = c := by simp [hb]
      rw [hg] at h0
      simp only [h0, bind_some', up_spec, low_spec, onOut_ret, boolOf, List.length_cons]
      have e1 : decide (((r.length + 1 : Nat) : Int) < 1) = false := by simp; omega
      rw [e1, cond_false]
      by_cases h8 : r.length ≥ 8
      · rw [show decide (r.length ≥ 8) = true from by simpa using h8, show decide (((r.length + 1 : Nat) : Int) > 8) = true from by simp; omega]; rfl
      · rw [show decide (r.length ≥ 8) = false from by simpa using h8, show decide (((r.length + 1 : Nat) : Int) > 8) = false from by simp; omega]
        simp only [condF]
        have hl : ∀ kind : Int, Lp52_0 (evw E) 20 h 20 h (.lit (.string s)) (.lit (.int .i64 kind)) (.lit (.int .i64 1)) = some (.ret (.lit (.int .i64 (kindL kind r))), h) := by
          intro kind
          have := loop kind 20 1 (by simp; omega) (by simp) (by simp; omega)
          rw [show ((1 : Nat) : Int) = 1 from rfl, show List.drop 1 (c :: r) = r from rfl] at this
          exact this
        rw [hl, hl, hl]
        unfold kind0
        cases upB c.toNat <;> cases lowB c.toNat <;> rfl

end Go.Sh.T

namespace Go.Sh.T
open Go Go.Sh
set_option linter.unusedSimpArgs false
set_option linter.unusedVariables false
theorem fine_spec (s : ByteArray) (h : Heap) : evw E 46 [.lit (.string s)] h = some (.ret (.lit (.bool (kindR s == 1))), h) := by
  refine evw_run primsC 0 rfl rfl rfl ?_
  rw [nf46]; simp only [kind_spec, onOut_ret, bin_int, intBin, bind_some']
theorem var_spec (s : ByteArray) (h : Heap) : evw E 36 [.lit (.string s)] h = some (.ret (.lit (.bool (kindR s == 2))), h) := by
  refine evw_run primsC 0 rfl rfl rfl ?_
  rw [nf36]; simp only [kind_spec, onOut_ret, bin_int, intBin, bind_some']

/- rising -/
def strLt (x y : ByteArray) : Bool := Op.bytesLess x.toList y.toList
def gapR (p : Option ByteArray) (s : ByteArray) : Bool := match p with
  | none => true
  | some q => strLt q s
def risingR : List ByteArray → Option ByteArray → Bool
  | [], _ => true
  | s :: r, p => kindR s == 1 && gapR p s && risingR r (some s)

theorem rising_spec (l : List ByteArray) (hl : l.length ≤ maxLen) (h : Heap) : evw E 37 [.sl 1 (l.map strC)] h = some (.ret (.lit (.bool (risingR l none))), h) := by
  have hl : l.length ≤ 9223372036854775807 := hl
  have loop : ∀ (q i : Nat), i ≤ l.length → l.length < q + i → Lp37_0 (evw E) (l.length + 1) h q h (.sl 1 (l.map strC)) (.lit (.int .i64 (i : Int))) = some (.ret (.lit (.bool (risingR (l.drop i) (if i = 0 then none else l[i - 1]?)))), h) := by
    intro q
    induction q with
    | zero => intro i h1 h2; omega
    | succ q ih =>
      intro i h1 h2
      rw [Lp37_0_succ]
      simp only [lenA22, bind_some', bin_int, intBin, boolOf, List.length_map]
      by_cases hi : i < l.length
      · simp only [show decide ((i : Int) < (l.length : Int)) = true from by simpa using hi, cond_true, indexA_map _ _ _ _ hi, bind_some', part_str, fine_spec, onOut_ret, unAV, boolOf, bin_int, intBin]
        rw [List.drop_eq_getElem_cons hi, risingR, IntWalk.i64_in ((i : Int) + 1) (by omega)]
        have hn := ih (i + 1) hi (by omega)
        rw [if_neg (by omega), Nat.add_sub_cancel, List.getElem?_eq_getElem hi, Int.natCast_add, show ((1 : Nat) : Int) = 1 from rfl] at hn
        cases e : kindR l[i] == 1 with
        | false => rfl
        | true =>
          by_cases h0 : i = 0
          · subst h0
            simp only [Bool.not_true, cond_false, show decide (((0 : Nat) : Int) > 0) = false from rfl]
            rw [if_pos trivial]
            exact hn
          · have hi1 : i - 1 < l.length := by omega
            rw [if_neg h0, List.getElem?_eq_getElem hi1, IntWalk.i64_in ((i : Int) - 1) (by omega), show (i : Int) - 1 = ((i - 1 : Nat) : Int) from by omega]
            simp only [Bool.not_true, cond_false, show decide ((i : Int) > 0) = true from by simp; omega, cond_true, indexA_map _ _ _ _ hi1, indexA_map _ _ _ _ hi, bind_some', part_str, bin_str, strBin, boolOf]
            simp only [gapR, strLt, Bool.true_and]
            cases e2 : Op.bytesLess l[i - 1].toList l[i].toList with
            | false => rfl
            | true => exact hn
      · simp only [show decide ((i : Int) < (l.length : Int)) = false from by simpa using hi, cond_false]
        rw [show l.drop i = [] from List.drop_eq_nil_of_le (by omega)]
        rfl
  refine evw_run primsC (l.length + 1) rfl rfl rfl ?_
  rw [nf37]
  have := loop (l.length + 1) 0 (Nat.zero_le _) (by omega)
  rw [if_pos rfl, List.drop_zero] at this
  exact this
end Go.Sh.T

namespace Go.Sh.T
open Go Go.Sh
set_option linter.unusedSimpArgs false
set_option linter.unusedVariables false

def emptyS (s : ByteArray) : Bool := s.toList == ByteArray.empty.toList
/-- Is a node as its kind wants it? -/
def nodeR (k n : Int) (s : ByteArray) (ls : List ByteArray) (m : Nat) : Bool :=
  !((k != 6 && !emptyS s) || (k != 9 && n != 0) || (k != 8 && decide ((ls.length : Int) > 0))) &&
  (bif decide (k ≥ 1) && decide (k ≤ 5) then (m : Int) == 0 else bif k == 6 then kindR s == 2 && (m : Int) == 0 else
   bif k == 9 then decide (n ≥ 0) && (decide (n ≤ 1073741824) && (m : Int) == 0) else bif k == 7 then (m : Int) == 2 else k == 8 && (risingR ls none && (ls.length : Int) == (m : Int)))

mutual
def Ty.right : Ty → Bool
  | ⟨k, n, s, ls, xs⟩ => Ty.rightL xs && nodeR k n s ls xs.length
def Ty.rightL : List Ty → Bool
  | [] => true
  | t :: r => t.right && Ty.rightL r
end
theorem Ty.right_eq (t : Ty) : t.right = (Ty.rightL t.args && nodeR t.k t.n t.name t.labels t.args.length) := by cases t; rw [Ty.right]

theorem right_tail (t : Ty) (ok : t.Ok) (h : Heap) (m : Nat) : Lp10_0 (evw E) (t.args.length + 1) h (m + 1) h (.lit (.int .i64 t.k)) (.lit (.int .i64 t.n)) (.lit (.string t.name)) (.sl 1 (t.labels.map strC)) (.sl 5 (t.args.map Ty.cells)) (.lit (.int .i64 (t.args.length : Int))) = some (.ret (.lit (.bool (nodeR t.k t.n t.name t.labels t.args.length))), h) := by
  rw [Lp10_0_succ]
  have hl := rising_spec t.labels ok.lab h
  have h6 : t.k = 6 ∨ t.k = 7 ∨ t.k = 8 ∨ t.k = 9 ∨ (t.k ≠ 6 ∧ t.k ≠ 7 ∧ t.k ≠ 8 ∧ t.k ≠ 9) := by omega
  have e0 : decide ((t.args.length : Int) < (t.args.length : Int)) = false := by simp
  unfold nodeR emptyS
  rcases h6 with e | e | e | e | ⟨e1, e2, e3, e4⟩
  · rw [e]
    simp only [lenA23, lenA22, bind_some', bin_int, intBin, boolOf, List.length_map, e0, cond_false, cond_true, bin_str, strBin, var_spec, hl, onOut_ret, unAV, show ((6 : Int) != 6) = false from rfl, show ((6 : Int) != 9) = true from rfl, show ((6 : Int) != 8) = true from rfl, show ((6 : Int) == 6) = true from rfl, show decide ((6 : Int) ≥ 1) = true from rfl, show decide ((6 : Int) ≤ 5) = false from rfl, Bool.false_and, Bool.true_and, Bool.false_or]
    cases t.n != 0 <;> cases decide ((t.labels.length : Int) > 0) <;> cases kindR t.name == 2 <;> rfl
  · rw [e]
    simp only [lenA23, lenA22, bind_some', bin_int, intBin, boolOf, List.length_map, e0, cond_false, cond_true, bin_str, strBin, var_spec, hl, onOut_ret, unAV, show ((7 : Int) != 6) = true from rfl, show ((7 : Int) != 9) = true from rfl, show ((7 : Int) != 8) = true from rfl, show ((7 : Int) == 6) = false from rfl, show ((7 : Int) == 9) = false from rfl, show ((7 : Int) == 7) = true from rfl, show decide ((7 : Int) ≥ 1) = true from rfl, show decide ((7 : Int) ≤ 5) = false from rfl, Bool.false_and, Bool.true_and, Bool.false_or]
    cases t.name.toList == ByteArray.empty.toList <;> cases t.n != 0 <;> cases decide ((t.labels.length : Int) > 0) <;> rfl
  · rw [e]
    simp only [lenA23, lenA22, bind_some', bin_int, intBin, boolOf, List.length_map, e0, cond_false, cond_true, bin_str, strBin, var_spec, hl, onOut_ret, unAV, show ((8 : Int) != 6) = true from rfl, show ((8 : Int) != 9) = true from rfl, show ((8 : Int) != 8) = false from rfl, show ((8 : Int) == 6) = false from rfl, show ((8 : Int) == 9) = false from rfl, show ((8 : Int) == 7) = false from rfl, show ((8 : Int) == 8) = true from rfl, show decide ((8 : Int) ≥ 1) = true from rfl, show decide ((8 : Int) ≤ 5) = false from rfl, Bool.false_and, Bool.true_and, Bool.false_or]
    cases t.name.toList == ByteArray.empty.toList <;> cases t.n != 0 <;> cases risingR t.labels none <;> rfl
  · rw [e]
    simp only [lenA23, lenA22, bind_some', bin_int, intBin, boolOf, List.length_map, e0, cond_false, cond_true, bin_str, strBin, var_spec, hl, onOut_ret, unAV, show ((9 : Int) != 6) = true from rfl, show ((9 : Int) != 9) = false from rfl, show ((9 : Int) != 8) = true from rfl, show ((9 : Int) == 6) = false from rfl, show ((9 : Int) == 9) = true from rfl, show decide ((9 : Int) ≥ 1) = true from rfl, show decide ((9 : Int) ≤ 5) = false from rfl, Bool.false_and, Bool.true_and, Bool.false_or]
    cases t.name.toList == ByteArray.empty.toList <;> cases decide (t.n ≥ 0) <;> cases decide (t.n ≤ 1073741824) <;> cases decide ((t.labels.length : Int) > 0) <;> rfl
  · have d6 : (t.k != 6) = true := by simpa using e1
    have d8 : (t.k != 8) = true := by simpa using e3
    have d9 : (t.k != 9) = true := by simpa using e4
    have f6 : (t.k == 6) = false := by simpa using e1
    have f7 : (t.k == 7) = false := by simpa using e2
    have f8 : (t.k == 8) = false := by simpa using e3
    have f9 : (t.k == 9) = false := by simpa using e4
    simp only [lenA23, lenA22, bind_some', bin_int, intBin, boolOf, List.length_map, e0, cond_false, cond_true, bin_str, strBin, var_spec, hl, onOut_ret, unAV, d6, d8, d9, f6, f7, f8, f9, Bool.false_and, Bool.true_and, Bool.false_or]
    cases t.name.toList == ByteArray.empty.toList <;> cases t.n != 0 <;> cases decide ((t.labels.length : Int) > 0) <;> cases decide (t.k ≥ 1) <;> cases decide (t.k ≤ 5) <;> rfl

theorem right_spec : ∀ (t : Ty) (h : Heap), t.Ok → evw E 10 [.agg t.cells] h = some (.ret (.lit (.bool t.right)), h)
  | t, h, ok => by
    have hlen := ok.len
    have loop : ∀ (m i : Nat), i ≤ t.args.length → t.args.length < m + i → Lp10_0 (evw E) (t.args.length + 1) h m h (.lit (.int .i64 t.k)) (.lit (.int .i64 t.n)) (.lit (.string t.name)) (.sl 1 (t.labels.map strC)) (.sl 5 (t.args.map Ty.cells)) (.lit (.int .i64 (i : Int))) = some (.ret (.lit (.bool (Ty.rightL (t.args.drop i) && nodeR t.k t.n t.name t.labels t.args.length))), h) := by
      intro m
      induction m with
      | zero => intro i h1 h2; omega
      | succ m ih =>
        intro i h1 h2
        by_cases hi : i < t.args.length
        · rw [Lp10_0_succ, lenA23, bind_some', bin_int, List.length_map]
          have hrec := right_spec (t.args[i]) h (ok.arg (List.getElem_mem hi))
          rw [show intBin .lss .i64 (i : Int) (t.args.length : Int) = some (.lit (.bool true)) from by unfold intBin; rw [show decide ((i : Int) < (t.args.length : Int)) = true from by simpa using hi]]
          rw [bind_some', show boolOf (.lit (.bool true)) = some true from rfl, bind_some', condT, indexA_map _ _ _ _ hi, bind_some', partA_full (Ty.cells_len _), bind_some', hrec, onOut_ret]
          rw [List.drop_eq_getElem_cons hi, Ty.rightL, bin_int]
          simp only [unAV, bind_some', boolOf, intBin]
          rw [IntWalk.i64_in ((i : Int) + 1) (by omega)]
          cases e : (t.args[i]).right with
          | false => rfl
          | true => rw [Bool.not_true, condF, Bool.true_and]; exact ih (i + 1) hi (by omega)
        · have hi' : i = t.args.length := by omega
          subst hi'
          rw [right_tail t ok h m, List.drop_length, Ty.rightL, Bool.true_and]
    refine evw_run primsC (t.args.length + 1) rfl rfl rfl ?_
    rw [nf10]
    have := loop (t.args.length + 1) 0 (Nat.zero_le _) (by omega)
    rw [List.drop_zero, show ((0 : Nat) : Int) = 0 from rfl] at this
    rw [Ty.right_eq, ← this]
    rw [show aggOf (.agg t.cells) = some t.cells from rfl, bind_some', Ty.cells_len, show Nat.beq 5 5 = true from rfl, condT, Ty.c0, Ty.c1, Ty.c2, Ty.c3, Ty.c4]
  termination_by t => SizeOf.sizeOf t
  decreasing_by exact Ty.size_arg hi
end Go.Sh.T

namespace Go.Sh.T
open Go Go.Sh
set_option linter.unusedSimpArgs false
set_option linter.unusedVariables false

/- how much a type has -/
def quo8 (s : ByteArray) : Int := IntKind.i64.wrap ((s.size : Int).tdiv 8)
def labs (n : Int) : List ByteArray → Int
  | [] => n
  | s :: r => labs (add64 n (quo8 s)) r
mutual
def Ty.much : Ty → Int
  | ⟨_, _, s, ls, xs⟩ => Ty.muchL (labs (add64 (add64 1 (quo8 s)) ls.length) (ls.take 1000)) xs
def Ty.muchL (n : Int) : List Ty → Int
  | [] => n
  | t :: r => bif decide (n < 3000) then Ty.muchL (add64 n t.much) r else n
end
theorem Ty.much_eq (t : Ty) : t.much = Ty.muchL (labs (add64 (add64 1 (quo8 t.name)) t.labels.length) (t.labels.take 1000)) t.args := by cases t; rw [Ty.much]

theorem div8 (s : ByteArray) : intBin .quo .i64 (s.size : Int) 8 = some (.lit (.int .i64 (quo8 s))) := (Eq.refl _).trans rfl

theorem much_spec : ∀ (t : Ty) (h : Heap), t.Ok → evw E 7 [.agg t.cells] h = some (.ret (.lit (.int .i64 t.much)), h)
  | t, h, ok => by
    have hlen := ok.len
    have hlab : t.labels.length ≤ 9223372036854775807 := ok.lab
    have loop1 : ∀ (m i : Nat) (acc : Int), i ≤ t.args.length → t.args.length < m + i → Lp7_1 (evw E) (t.args.length + t.labels.length + 1) h m h (.lit (.int .i64 t.k)) (.lit (.int .i64 t.n)) (.lit (.string t.name)) (.sl 1 (t.labels.map strC)) (.sl 5 (t.args.map Ty.cells)) (.lit (.int .i64 acc)) (.lit (.int .i64 (i : Int))) = some (.ret (.lit (.int .i64 (Ty.muchL acc (t.args.drop i)))), h) := by
      intro m
      induction m with
      | zero => intro i acc h1 h2; omega
      | succ m ih =>
        intro i acc h1 h2
        rw [Lp7_1_succ]
        simp only [lenA23, bind_some', bin_int, lssI, boolB, List.length_map]
        by_cases hi : i < t.args.length
        · have hrec := much_spec (t.args[i]) h (ok.arg (List.getElem_mem hi))
          rw [show decide ((i : Int) < (t.args.length : Int)) = true from by simpa using hi, condT, List.drop_eq_getElem_cons hi, Ty.muchL]
          cases decide (acc < 3000) with
          | false => rfl
          | true =>
            rw [condT, condT]
            simp only [indexA_map _ _ _ _ hi, bind_some', partA_full (Ty.cells_len _), hrec, onOut_ret, bin_int, addI]
            rw [incI (by omega)]
            exact ih (i + 1) _ hi (by omega)
        · rw [show decide ((i : Int) < (t.args.length : Int)) = false from by simpa using hi, condF]
          rw [List.drop_of_length_le (by omega), Ty.muchL]
    have loop0 : ∀ (m i : Nat) (acc : Int), i ≤ t.labels.length → t.labels.length < m + i → Lp7_0 (evw E) (t.args.length + t.labels.length + 1) h m h (.lit (.int .i64 t.k)) (.lit (.int .i64 t.n)) (.lit (.string t.name)) (.sl 1 (t.labels.map strC)) (.sl 5 (t.args.map Ty.cells)) (.lit (.int .i64 acc)) (.lit (.int .i64 (i : Int))) = some (.ret (.lit (.int .i64 (Ty.muchL (labs acc ((t.labels.drop i).take (1000 - i))) t.args))), h) := by
      have fin := fun acc => loop1 (t.args.length + t.labels.length + 1) 0 acc (Nat.zero_le _) (by omega)
      intro m
      induction m with
      | zero => intro i acc h1 h2; omega
      | succ m ih =>
        intro i acc h1 h2
        rw [Lp7_0_succ]
        simp only [lenA22, bind_some', bin_int, lssI, boolB, List.length_map]
        have fin' := fin acc
        rw [List.drop_zero, show ((0 : Nat) : Int) = 0 from rfl] at fin'
        by_cases hi : i < t.labels.length
        · rw [show decide ((i : Int) < (t.labels.length : Int)) = true from by simpa using hi, condT]
          by_cases hk : i < 1000
          · rw [show decide ((i : Int) < 1000) = true from by simp; omega, condT]
            simp only [indexA_map _ _ _ _ hi, bind_some', part_str, lenS, bin_int, div8, addI]
            rw [incI (by omega), List.drop_eq_getElem_cons hi, show 1000 - i = (1000 - (i + 1)) + 1 from by omega, List.take_succ_cons, labs]
            exact ih (i + 1) _ hi (by omega)
          · rw [show decide ((i : Int) < 1000) = false from by simp; omega, condF, show 1000 - i = 0 from by omega, List.take_zero, labs]
            exact fin'
        · rw [show decide ((i : Int) < (t.labels.length : Int)) = false from by simpa using hi, condF, List.drop_of_length_le (by omega), List.take_nil, labs]
          exact fin'
    refine evw_run primsC (t.args.length + t.labels.length + 1) rfl rfl rfl ?_
    rw [nf7]
    simp only [aggS, bind_some', Ty.cells_len, Ty.c0, Ty.c1, Ty.c2, Ty.c3, Ty.c4, lenS, bin_int, div8, addI, lenA22, List.length_map, show Nat.beq 5 5 = true from rfl]
    rw [condT]
    have := loop0 (t.args.length + t.labels.length + 1) 0 (add64 (add64 1 (quo8 t.name)) t.labels.length) (Nat.zero_le _) (by omega)
    rw [List.drop_zero, Nat.sub_zero, show ((0 : Nat) : Int) = 0 from rfl, ← Ty.much_eq] at this
    exact this
  termination_by t => SizeOf.sizeOf t
  decreasing_by exact Ty.size_arg hi

/- seals -/
structure Seal where
  rep : Ty
  bound : Ty
  df : ByteArray
  nd : Int
def Seal.cells (s : Seal) : List AV := s.rep.cells ++ (s.bound.cells ++ [.lit (.string s.df), .lit (.int .i64 s.nd)])
structure Seal.Ok (s : Seal) : Prop where
  rep : s.rep.Ok
  bound : s.bound.Ok
  df : s.df.size ≤ maxLen
@[simp] theorem Seal.len (s : Seal) : s.cells.length = 12 := by simp [Seal.cells]
theorem Seal.p0 (s : Seal) : partA true 5 0 (s.cells.drop 0) = some (.agg s.rep.cells) := by
  unfold partA
  rw [List.drop_zero, Seal.len, show Nat.ble (0 + 5) 12 = true from rfl, condT, condT, List.drop_zero, Seal.cells, List.take_left' (Ty.cells_len _)]
theorem Seal.p5 (s : Seal) : partA true 5 0 (s.cells.drop 5) = some (.agg s.bound.cells) := by
  unfold partA
  rw [List.length_drop, Seal.len, show Nat.ble (0 + 5) (12 - 5) = true from rfl, condT, condT, List.drop_zero, Seal.cells, List.drop_left' (Ty.cells_len _), List.take_left' (Ty.cells_len _)]
theorem Seal.d10 (s : Seal) : s.cells.drop 10 = [.lit (.string s.df), .lit (.int .i64 s.nd)] := by
  rw [show (10 : Nat) = 5 + 5 from rfl, ← List.drop_drop, Seal.cells, List.drop_left' (Ty.cells_len _), List.drop_left' (Ty.cells_len _)]
theorem get_rep (s : Seal) (i : Nat) (h : i < 5) : s.cells.getD i .dead = s.rep.cells.getD i .dead := by
  rw [Seal.cells, List.getD_eq_getElem?_getD, List.getElem?_append_left (by rw [Ty.cells_len]; exact h), ← List.getD_eq_getElem?_getD]
theorem get_bound (s : Seal) (i : Nat) (h : i < 5) : s.cells.getD (5 + i) .dead = s.bound.cells.getD i .dead := by
  rw [Seal.cells, List.getD_eq_getElem?_getD, List.getElem?_append_right (by rw [Ty.cells_len]; omega), Ty.cells_len, Nat.add_sub_cancel_left, List.getElem?_append_left (by rw [Ty.cells_len]; exact h), ← List.getD_eq_getElem?_getD]
theorem Seal.reRep (s : Seal) : [s.cells.getD 0 .dead, s.cells.getD 1 .dead, s.cells.getD 2 .dead, s.cells.getD 3 .dead, s.cells.getD 4 .dead] = s.rep.cells := by
  rw [get_rep s 0 (by decide), get_rep s 1 (by decide), get_rep s 2 (by decide), get_rep s 3 (by decide), get_rep s 4 (by decide), Ty.refold]
theorem Seal.reBound (s : Seal) : [s.cells.getD 5 .dead, s.cells.getD 6 .dead, s.cells.getD 7 .dead, s.cells.getD 8 .dead, s.cells.getD 9 .dead] = s.bound.cells := by
  rw [get_bound s 0 (by decide), get_bound s 1 (by decide), get_bound s 2 (by decide), get_bound s 3 (by decide), get_bound s 4 (by decide), Ty.refold]
theorem Seal.g10 (s : Seal) : s.cells.getD 10 .dead = .lit (.string s.df) := by
  have := congrArg (fun l => l.getD 0 AV.dead) s.d10
  simpa [List.getD_eq_getElem?_getD] using this
theorem Seal.g11 (s : Seal) : s.cells.getD 11 .dead = .lit (.int .i64 s.nd) := by
  have := congrArg (fun l => l.getD 1 AV.dead) s.d10
  simpa [List.getD_eq_getElem?_getD] using this
theorem Seal.re (s : Seal) : [s.cells.getD 0 .dead, s.cells.getD 1 .dead, s.cells.getD 2 .dead, s.cells.getD 3 .dead, s.cells.getD 4 .dead, s.cells.getD 5 .dead, s.cells.getD 6 .dead, s.cells.getD 7 .dead, s.cells.getD 8 .dead, s.cells.getD 9 .dead, s.cells.getD 10 .dead, s.cells.getD 11 .dead] = s.cells := by
  have h1 := s.reRep; have h2 := s.reBound
  have : ∀ a b c d e f g h i j k l : AV, [a, b, c, d, e, f, g, h, i, j, k, l] = [a, b, c, d, e] ++ ([f, g, h, i, j] ++ [k, l]) := fun _ _ _ _ _ _ _ _ _ _ _ _ => rfl
  rw [this, h1, h2, Seal.g10, Seal.g11, Seal.cells]

/-- how much the largest has -/
def max64 (x : Int) (l : List Int) : Int := l.foldl (fun x y => if y > x then y else x) x
def few15L (n : Int) : List Seal → Int
  | [] => n
  | s :: r => few15L (max64 n [s.rep.much, s.bound.much, quo8 s.df]) r
def few15 (l : List Seal) : Int := bif decide ((l.length : Int) > 12) then 5000 else few15L 0 (l.take 20)

end Go.Sh.T

namespace Go.Sh.T
open Go Go.Sh
set_option linter.unusedSimpArgs false
set_option linter.unusedVariables false
set_option maxRecDepth 100000

/- the program's names are the document's -/
theorem low_hi {c : Int} (h : 128 ≤ c) : lowB c = false := by
  unfold lowB; rw [show decide (c ≤ 122) = false from by simp; omega]; cases decide (c ≥ 97) <;> rfl
theorem up_hi {c : Int} (h : 128 ≤ c) : upB c = false := by
  unfold upB; rw [show decide (c ≤ 90) = false from by simp; omega]; cases decide (c ≥ 65) <;> rfl
theorem dig_hi {c : Int} (h : 128 ≤ c) : digB c = false := by
  unfold digB; rw [show decide (c ≤ 57) = false from by simp; omega]; cases decide (c ≥ 48) <;> rfl

theorem get_byte (s : ByteArray) (pos : Nat) (h : pos < s.size) (h' : pos < (bytes s).length) : s[pos]'h = (bytes s)[pos]'h' := rfl

theorem decode_big (s : ByteArray) (pos : Nat) (h : pos < s.size) (hb : 128 ≤ (s[pos]'h).toNat) : 128 ≤ (Utf8.decode s pos).1 := by
  have e : s.get! (pos + 0) = s[pos]'h := by
    show s.get! pos = _
    simp [ByteArray.get!, getElem!_pos, h]
    rfl
  simp only [Utf8.decode, e]
  rw [if_neg (by omega)]
  unfold Utf8.runeError
  repeat' split
  all_goals rename_i hc
  all_goals simp only [Bool.and_eq_true, decide_eq_true_eq, ge_iff_le] at *
  all_goals omega

theorem go_kind (s : ByteArray) : ∀ (m pos : Nat) (k : Int), 1 ≤ pos → s.size < m + pos → pos ≤ s.size → (k = 1 ∨ k = 2) → P59.goP s m pos k = kindL k ((bytes s).drop pos)
  | 0, pos, k, _, h1, h2, _ => by omega
  | m + 1, pos, k, h0, h1, h2, hk => by
    unfold P59.goP
    by_cases hp : pos < s.size
    · have hp' : pos < (bytes s).length := by rw [bytes_len]; exact hp
      rw [dif_pos hp, List.drop_eq_getElem_cons hp', kindL]
      have hz : (pos == 0) = false := by simp; omega
      by_cases hb : (s[pos]'hp).toNat < 128
      · rw [decode_ascii s pos hp hb, ← get_byte s pos hp hp']
        have ih := fun k hk => go_kind s m (pos + 1) k (by omega) (by omega) (by omega) hk
        simp only [hz]
        unfold P59.stepP badR
        rcases hk with e | e
        · subst e
          have := ih 1 (.inl rfl)
          cases lowB ((s[pos]'hp).toNat : Int) <;> cases upB ((s[pos]'hp).toNat : Int) <;> cases digB ((s[pos]'hp).toNat : Int) <;> first | rfl | exact this
        · subst e
          have := ih 2 (.inr rfl)
          cases lowB ((s[pos]'hp).toNat : Int) <;> cases upB ((s[pos]'hp).toNat : Int) <;> cases digB ((s[pos]'hp).toNat : Int) <;> first | rfl | exact this
      · have hd := decode_big s pos hp (by omega)
        have hq : (128 : Int) ≤ ((bytes s)[pos]'hp').toNat := by rw [← get_byte s pos hp hp']; omega
        unfold P59.stepP badR
        rw [low_hi (by omega), up_hi (by omega), dig_hi (by omega), low_hi hq, up_hi hq, dig_hi hq, hz]
        cases k != 0 <;> cases k == 2 <;> rfl
    · rw [dif_neg hp, List.drop_of_length_le (by rw [bytes_len]; omega), kindL]

theorem kindL_zero : ∀ l : List UInt8, kindL 0 l = 0
  | [] => rfl
  | c :: r => by rw [kindL, kindL_zero r]; cases badR 0 c.toNat <;> rfl

/-- What the document tells by letters alone. -/
def lettersR (s : ByteArray) : Int := match bytes s with
  | [] => 0
  | c :: r => bif decide (r.length ≥ 8) then 0 else kindL (kind0 c.toNat) r
theorem kindR_eq (s : ByteArray) : kindR s = bif keptR s != 0 then keptR s else lettersR s := rfl

theorem shape_letters (s : ByteArray) : P59.shapeP s = lettersR s := by
  unfold P59.shapeP lettersR
  have hl := bytes_len s
  cases hb : bytes s with
  | nil =>
    rw [hb] at hl
    have h0 : s.size = 0 := by simpa using hl.symm
    rw [show decide ((s.size : Int) > 8) = false from by simp; omega, cond_false]
    unfold P59.goP
    rw [dif_neg (by omega)]
  | cons c r =>
    rw [hb, List.length_cons] at hl
    show _ = cond (decide (r.length ≥ 8)) 0 (kindL (kind0 c.toNat) r)
    by_cases h8 : r.length ≥ 8
    · rw [show decide ((s.size : Int) > 8) = true from by simp; omega, show decide (r.length ≥ 8) = true from by simpa using h8]; rfl
    · rw [show decide ((s.size : Int) > 8) = false from by simp; omega, show decide (r.length ≥ 8) = false from by simpa using h8, cond_false]
      unfold P59.goP
      have hp : 0 < s.size := by omega
      rw [dif_pos hp]
      have hp' : 0 < (bytes s).length := by rw [hb]; simp
      have hg : s[0]'hp = c := by rw [get_byte s 0 hp hp']; simp [hb]
      have hdrop : (bytes s).drop 1 = r := by rw [hb]; rfl
      have ih := fun k hk => go_kind s 9 1 k (by omega) (by omega) (by omega) hk
      rw [hdrop] at ih
      by_cases hbb : (s[0]'hp).toNat < 128
      · rw [decode_ascii s 0 hp hbb, hg]
        unfold P59.stepP kind0
        have i1 := ih 1 (.inl rfl)
        have i2 := ih 2 (.inr rfl)
        have hlu : ¬ (lowB (c.toNat : Int) = true ∧ upB (c.toNat : Int) = true) := by
          intro ⟨h1, h2⟩
          unfold lowB at h1; unfold upB at h2
          simp at h1 h2; omega
        have hz := kindL_zero r
        cases hlo : lowB (c.toNat : Int) <;> cases hup : upB (c.toNat : Int)
        · exact hz.symm
        · exact i2
        · exact i1
        · exact absurd ⟨hlo, hup⟩ hlu
      · have hd := decode_big s 0 hp (by omega)
        have hq : (128 : Int) ≤ c.toNat := by rw [← hg]; omega
        unfold P59.stepP kind0
        rw [low_hi (by omega), up_hi (by omega), low_hi hq, up_hi hq]
        exact (kindL_zero r).symm

theorem shape_spec (s : ByteArray) (h : Heap) : evw E 59 [.lit (.string s)] h = some (.ret (.lit (.int .i64 (lettersR s))), h) := by
  rw [← shape_letters]
  exact evw_prim primsC (p := p59) (by kernel_rfl) rfl

def keptP (s : ByteArray) (x : Int) : Int := bif keys3.any (fun k => strEq s k) then 3 else bif keys4.any (fun k => strEq s k) then 4 else x
theorem strEq_comm (a b : ByteArray) : strEq a b = strEq b a := Bool.eq_iff_iff.2 ⟨fun h => by unfold strEq at *; rw [beq_iff_eq] at *; exact h.symm, fun h => by unfold strEq at *; rw [beq_iff_eq] at *; exact h.symm⟩
theorem keptP_eq (s : ByteArray) : keptP s (lettersR s) = kindR s := by
  have e : ∀ l : List ByteArray, (l.any fun k => strEq s k) = l.any fun k => strEq k s := fun l => by congr 1; funext k; exact strEq_comm s k
  rw [kindR_eq]; unfold keptP keptR
  rw [e, e]
  cases keys3.any (fun k => strEq k s) <;> cases keys4.any (fun k => strEq k s) <;> rfl

theorem eqS (s k : ByteArray) : binAV E .eql 9 (.lit (.string s)) (.lit (.string k)) = some (.lit (.bool (strEq s k))) := (Eq.refl _).trans rfl
theorem pkind_spec (s : ByteArray) (h : Heap) : evw E 50 [.lit (.string s)] h = some (.ret (.lit (.int .i64 (kindR s))), h) := by
  rw [← keptP_eq]
  refine evw_run primsC 0 rfl rfl rfl ?_
  rw [nf50, shape_spec, onOut_ret]
  unfold keptP keys3 keys4
  simp only [List.any_cons, List.any_nil, Bool.or_false]
  generalize lettersR s = x
  rw [eqS s ⟨#[108, 101, 116]⟩, bind_some', boolB, bind_some']
  cases strEq s ⟨#[108, 101, 116]⟩ with
  | true => rfl
  | false =>
  rw [condF]
  rw [eqS s ⟨#[105, 110]⟩, bind_some', boolB, bind_some']
  cases strEq s ⟨#[105, 110]⟩ with
  | true => rfl
  | false =>
  rw [condF]
  rw [eqS s ⟨#[105, 102]⟩, bind_some', boolB, bind_some']
  cases strEq s ⟨#[105, 102]⟩ with
  | true => rfl
  | false =>
  rw [condF]
  rw [eqS s ⟨#[116, 104, 101, 110]⟩, bind_some', boolB, bind_some']
  cases strEq s ⟨#[116, 104, 101, 110]⟩ with
  | true => rfl
  | false =>
  rw [condF]
  rw [eqS s ⟨#[101, 108, 115, 101]⟩, bind_some', boolB, bind_some']
  cases strEq s ⟨#[101, 108, 115, 101]⟩ with
  | true => rfl
  | false =>
  rw [condF]
  rw [eqS s ⟨#[102, 110]⟩, bind_some', boolB, bind_some']
  cases strEq s ⟨#[102, 110]⟩ with
  | true => rfl
  | false =>
  rw [condF]
  rw [eqS s ⟨#[99, 97, 108, 108]⟩, bind_some', boolB, bind_some']
  cases strEq s ⟨#[99, 97, 108, 108]⟩ with
  | true => rfl
  | false =>
  rw [condF]
  rw [eqS s ⟨#[100, 101, 102]⟩, bind_some', boolB, bind_some']
  cases strEq s ⟨#[100, 101, 102]⟩ with
  | true => rfl
  | false =>
  rw [condF]
  rw [eqS s ⟨#[116, 114, 117, 101]⟩, bind_some', boolB, bind_some']
  cases strEq s ⟨#[116, 114, 117, 101]⟩ with
  | true => rfl
  | false =>
  rw [condF]
  rw [eqS s ⟨#[102, 97, 108, 115, 101]⟩, bind_some', boolB, bind_some']
  cases strEq s ⟨#[102, 97, 108, 115, 101]⟩ with
  | true => rfl
  | false =>
  rw [condF]
  rw [eqS s ⟨#[73, 110, 116]⟩, bind_some', boolB, bind_some']
  cases strEq s ⟨#[73, 110, 116]⟩ with
  | true => rfl
  | false =>
  rw [condF]
  rw [eqS s ⟨#[66, 111, 111, 108]⟩, bind_some', boolB, bind_some']
  cases strEq s ⟨#[66, 111, 111, 108]⟩ with
  | true => rfl
  | false =>
  rw [condF]
  rw [eqS s ⟨#[83, 116, 114, 105, 110, 103]⟩, bind_some', boolB, bind_some']
  cases strEq s ⟨#[83, 116, 114, 105, 110, 103]⟩ with
  | true => rfl
  | false =>
  rw [condF]
  rw [eqS s ⟨#[84, 111, 112]⟩, bind_some', boolB, bind_some']
  cases strEq s ⟨#[84, 111, 112]⟩ with
  | true => rfl
  | false =>
  rw [condF]
  rfl

theorem pvar_spec (s : ByteArray) (h : Heap) : evw E 34 [.lit (.string s)] h = some (.ret (.lit (.bool (kindR s == 2))), h) := by
  refine evw_run primsC 0 rfl rfl rfl ?_
  rw [nf34, pkind_spec, onOut_ret, bin_int, eqlI, bind_some']
theorem pfine_spec (s : ByteArray) (h : Heap) : evw E 51 [.lit (.string s)] h = some (.ret (.lit (.bool (kindR s == 1))), h) := by
  refine evw_run primsC 0 rfl rfl rfl ?_
  rw [nf51, pkind_spec, onOut_ret, bin_int, eqlI, bind_some']

theorem prising_spec (l : List ByteArray) (hl : l.length ≤ maxLen) (h : Heap) : evw E 35 [.sl 1 (l.map strC)] h = some (.ret (.lit (.bool (risingR l none))), h) := by
  have hl : l.length ≤ 9223372036854775807 := hl
  have loop : ∀ (q i : Nat), i ≤ l.length → l.length < q + i → Lp35_0 (evw E) (l.length + 1) h q h (.sl 1 (l.map strC)) (.sl 1 (l.map strC)) (.lit (.int .i64 (l.length : Int))) (.lit (.int .i64 (i : Int))) = some (.ret (.lit (.bool (risingR (l.drop i) (if i = 0 then none else l[i - 1]?)))), h) := by
    intro q
    induction q with
    | zero => intro i h1 h2; omega
    | succ q ih =>
      intro i h1 h2
      rw [Lp35_0_succ, bin_int, lssI, bind_some', boolB, bind_some']
      by_cases hi : i < l.length
      · have hn := ih (i + 1) hi (by omega)
        rw [if_neg (by omega), Nat.add_sub_cancel, List.getElem?_eq_getElem hi] at hn
        rw [ltT hi, condT, indexA_map _ _ _ _ hi, bind_some', part_str, bind_some', pfine_spec, onOut_ret, notB, bind_some', boolB, bind_some', List.drop_eq_getElem_cons hi, risingR]
        cases e : kindR l[i] == 1 with
        | false => rfl
        | true =>
          rw [Bool.not_true, condF, bin_int, gtrI, bind_some', boolB, bind_some', Bool.true_and]
          by_cases h0 : i = 0
          · subst h0
            rw [show decide (((0 : Nat) : Int) > 0) = false from rfl, condF, bin_int, addI, bind_some', incI (by omega), if_pos rfl, gapR, Bool.true_and]
            exact hn
          · have hi1 : i - 1 < l.length := by omega
            rw [if_neg h0, List.getElem?_eq_getElem hi1, show decide ((i : Int) > 0) = true from by simp; omega, condT, bin_int, subI, bind_some', show sub64 (i : Int) 1 = ((i - 1 : Nat) : Int) from by unfold sub64; rw [IntWalk.i64_in _ (by omega)]; omega]
            rw [indexA_map _ _ _ _ hi1, bind_some', part_str, bind_some', bin_str, show strBin .geq l[i - 1] l[i] = some (.lit (.bool (!Op.bytesLess l[i - 1].toList l[i].toList))) from rfl, bind_some', boolB, bind_some']
            unfold gapR strLt
            simp only
            cases e2 : Op.bytesLess l[i - 1].toList l[i].toList with
            | false => rfl
            | true => rw [Bool.not_true, condF, Bool.true_and, bin_int, addI, bind_some', incI (by omega)]; exact hn
      · rw [ltF hi, condF, show l.drop i = [] from List.drop_eq_nil_of_le (by omega)]
        rfl
  refine evw_run primsC (l.length + 1) rfl rfl rfl ?_
  rw [nf35, lenA22, bind_some', List.length_map]
  have := loop (l.length + 1) 0 (Nat.zero_le _) (by omega)
  rw [if_pos rfl, List.drop_zero] at this
  exact this
end Go.Sh.T

namespace Go.Sh.T
open Go Go.Sh
set_option linter.unusedSimpArgs false
set_option linter.unusedVariables false
set_option maxRecDepth 100000

theorem applyS (F : Nat → List AV → Heap → R) (f : Nat) (caps args : List AV) (h : Heap) : applyV F (.fn f [] caps) args h = F f ([] ++ args ++ caps) h := (Eq.refl _).trans rfl
theorem any_spec (P : Ty → Bool) (fv : AV) (H : Heap) (l : List Ty) (hl : l.length ≤ maxLen) (hc : ∀ a ∈ l, applyV (evw E) fv [.agg a.cells] H = some (.ret (.lit (.bool (P a))), H)) : evw E 32 [.sl 5 (l.map Ty.cells), fv] H = some (.ret (.lit (.bool (l.any P))), H) := by
  have hl : l.length ≤ 9223372036854775807 := hl
  have loop : ∀ (m i : Nat), i ≤ l.length → l.length < m + i → ∃ r : Int, Lp49_0 (evw E) (l.length + 1) H m H (.sl 5 (l.map Ty.cells)) fv (.lit (.int .i64 (l.length : Int))) (.lit (.int .i64 (i : Int))) = some (.ret (.lit (.int .i64 r)), H) ∧ decide (r ≥ 0) = (l.drop i).any P := by
    intro m
    induction m with
    | zero => intro i h1 h2; omega
    | succ m ih =>
      intro i h1 h2
      rw [Lp49_0_succ, bin_int, lssI, bind_some', boolB, bind_some']
      by_cases hi : i < l.length
      · rw [ltT hi, condT, indexA_map _ _ _ _ hi, bind_some', partA_full (Ty.cells_len _), bind_some', hc _ (List.getElem_mem hi), onOut_ret, boolB, bind_some', List.drop_eq_getElem_cons hi, List.any_cons]
        cases e : P l[i] with
        | true => exact ⟨i, by rw [condT], by rw [Bool.true_or]; simp⟩
        | false =>
          rw [condF, bin_int, addI, bind_some', incI (by omega), Bool.false_or]
          exact ih (i + 1) hi (by omega)
      · exact ⟨-1, by rw [ltF hi, condF], by rw [List.drop_of_length_le (by omega)]; rfl⟩
  obtain ⟨r, h1, h2⟩ := loop (l.length + 1) 0 (Nat.zero_le _) (by omega)
  rw [List.drop_zero] at h2
  have h166 : evw E 49 [.sl 5 (l.map Ty.cells), fv] H = some (.ret (.lit (.int .i64 r)), H) := by
    refine evw_run primsC (l.length + 1) rfl rfl rfl ?_
    rw [nf49, lenA23, bind_some', List.length_map]
    exact h1
  refine evw_run primsC 0 rfl rfl rfl ?_
  rw [nf32, h166, onOut_ret, bin_int, geqI, bind_some', h2]

end Go.Sh.T

namespace Go.Sh.T
open Go Go.Sh
set_option linter.unusedSimpArgs false
set_option linter.unusedVariables false
set_option maxRecDepth 100000

theorem andB (a b : Bool) (h : Heap) : cond a (some (Out.ret (.lit (.bool b)), h)) (some (.ret (.lit (.bool false)), h)) = some (.ret (.lit (.bool (a && b))), h) := by cases a <;> rfl
def bareR (k n : Int) (s : ByteArray) (m : Nat) : Bool := (k == 6 || emptyS s) && ((k == 9 || n == 0) && (k == 8 || (m : Int) == 0))
theorem bin_strE (x y : ByteArray) : binAV E .eql 9 (.lit (.string x)) (.lit (.string y)) = some (.lit (.bool (x.toList == y.toList))) := (Eq.refl _).trans rfl

theorem bare_spec (t : Ty) (h : Heap) : evw E 31 [.agg t.cells] h = some (.ret (.lit (.bool (bareR t.k t.n t.name t.labels.length))), h) := by
  refine evw_run primsC 0 rfl rfl rfl ?_
  rw [nf31, aggS, bind_some', Ty.cells_len, show Nat.beq 5 5 = true from rfl, condT, Ty.c0, Ty.c1, Ty.c2, Ty.c3]
  simp only [bin_int, eqlI, bind_some', boolB, bin_strE, lenA22, List.length_map]
  unfold bareR emptyS
  cases t.k == 6 <;> cases t.k == 9 <;> cases t.k == 8 <;> cases t.n == 0 <;> cases t.name.toList == ByteArray.empty.toList <;> rfl

theorem pright_tail (k n : Int) (s : ByteArray) (ls : List ByteArray) (xs : List Ty) (hl : ls.length ≤ maxLen) (h : Heap) (hb : bareR k n s ls.length = true) {x : R}
    (hx : x = evw E 9 [.agg (Ty.mk k n s ls xs).cells] h) (h135 : evw E 32 [.sl 5 (xs.map Ty.cells), .fn 33 [] []] h = some (.ret (.lit (.bool false)), h)) : x = some (.ret (.lit (.bool (nodeR k n s ls xs.length))), h) := by
  rw [hx]
  refine evw_run primsC 0 rfl rfl rfl ?_
  rw [nf9, aggS, bind_some', Ty.cells_len, show Nat.beq 5 5 = true from rfl, condT, Ty.refold, bare_spec, onOut_ret, notB, bind_some', boolB, bind_some', show bareR (Ty.mk k n s ls xs).k (Ty.mk k n s ls xs).n (Ty.mk k n s ls xs).name (Ty.mk k n s ls xs).labels.length = true from hb, Bool.not_true, condF, Ty.c0, Ty.c1, Ty.c2, Ty.c3, Ty.c4, show (Ty.mk k n s ls xs).args = xs from rfl, h135, onOut_ret, boolB, bind_some', condF]
  have hr := prising_spec ls hl h
  have hbn : nodeR k n s ls xs.length = (bif decide (k ≥ 1) && decide (k ≤ 5) then (xs.length : Int) == 0 else bif k == 6 then kindR s == 2 && (xs.length : Int) == 0 else
      bif k == 9 then decide (n ≥ 0) && (decide (n ≤ 1073741824) && (xs.length : Int) == 0) else bif k == 7 then (xs.length : Int) == 2 else k == 8 && (risingR ls none && (ls.length : Int) == (xs.length : Int))) := by
    unfold nodeR
    unfold bareR at hb
    have e1 : decide ((ls.length : Int) > 0) = !((ls.length : Int) == 0) := by
      by_cases h0 : ls.length = 0
      · rw [h0]; rfl
      · rw [decide_eq_true (show (ls.length : Int) > 0 by omega), beq_false_of_ne (show (ls.length : Int) ≠ 0 by omega)]; rfl
    rw [e1]
    simp only [bne]
    revert hb
    cases k == 6 <;> cases k == 9 <;> cases k == 8 <;> cases n == 0 <;> cases emptyS s <;> cases (ls.length : Int) == 0 <;> intro hb <;> first | (cases hb; done) | simp
  rw [hbn]
  simp only [Ty.k, Ty.n, Ty.name, Ty.labels]
  have h10 : k = 1 ∨ k = 2 ∨ k = 3 ∨ k = 4 ∨ k = 5 ∨ k = 6 ∨ k = 7 ∨ k = 8 ∨ k = 9 ∨ (k ≠ 1 ∧ k ≠ 2 ∧ k ≠ 3 ∧ k ≠ 4 ∧ k ≠ 5 ∧ k ≠ 6 ∧ k ≠ 7 ∧ k ≠ 8 ∧ k ≠ 9) := by omega
  rcases h10 with e | e | e | e | e | e | e | e | e | e
  all_goals try subst e
  all_goals simp only [bin_int, eqlI, geqI, leqI, bind_some', boolB, lenA23, lenA22, List.length_map, pvar_spec, hr, onOut_ret, Int.reduceBEq, condT, condF, andB, Int.reduceLE, Int.reduceGE, decide_true, decide_false, Bool.true_and, Bool.false_and, Bool.and_true, Bool.and_false]
  · rw [Bool.and_comm]
  · have e1 : ((xs.length : Int) == (ls.length : Int)) = ((ls.length : Int) == (xs.length : Int)) := by
      by_cases h0 : (xs.length : Int) = (ls.length : Int)
      · rw [h0]
      · rw [beq_false_of_ne h0, beq_false_of_ne (Ne.symm h0)]
    rw [e1, Bool.and_comm]
  · cases (xs.length : Int) == 0 <;> cases decide (n ≥ 0) <;> cases decide (n ≤ 1073741824) <;> rfl
  · obtain ⟨e1, e2, e3, e4, e5, e6, e7, e8, e9⟩ := e
    have e0 : (decide (k ≥ 1) && decide (k ≤ 5)) = false := by
      by_cases h0 : k ≥ 1
      · rw [decide_eq_true h0, decide_eq_false (show ¬ k ≤ 5 by omega)]; rfl
      · rw [decide_eq_false h0]; rfl
    rw [e0, beq_false_of_ne e1, beq_false_of_ne e2, beq_false_of_ne e3, beq_false_of_ne e4, beq_false_of_ne e5, beq_false_of_ne e6, beq_false_of_ne e7, beq_false_of_ne e8, beq_false_of_ne e9]
    rfl

theorem rightL_any : ∀ l : List Ty, l.any (fun a => !a.right) = !Ty.rightL l
  | [] => by rw [Ty.rightL]; rfl
  | t :: r => by rw [List.any_cons, Ty.rightL, rightL_any r, Bool.not_and]

/-- The program's Right is the document's. -/
theorem pright_spec : ∀ (t : Ty) (h : Heap), t.Ok → evw E 9 [.agg t.cells] h = some (.ret (.lit (.bool t.right)), h)
  | t, h, ok => by
    have hrec : ∀ a ∈ t.args, ∀ H : Heap, evw E 9 [.agg a.cells] H = some (.ret (.lit (.bool a.right)), H) := by
      intro a ha H
      obtain ⟨i, hi, rfl⟩ := List.mem_iff_getElem.1 ha
      exact pright_spec t.args[i] H (ok.arg ha)
    have h135 : evw E 32 [.sl 5 (t.args.map Ty.cells), .fn 33 [] []] h = some (.ret (.lit (.bool (!Ty.rightL t.args))), h) := by
      rw [← rightL_any]
      refine any_spec (fun a => !a.right) (.fn 33 [] []) h t.args ok.len fun a ha => ?_
      rw [applyS]
      show evw E 33 [.agg a.cells] h = _
      refine evw_run primsC 0 rfl rfl rfl ?_
      rw [nf33, aggS, bind_some', Ty.cells_len, show Nat.beq 5 5 = true from rfl, condT, Ty.refold, hrec a ha, onOut_ret, notB, bind_some']
    cases hb : bareR t.k t.n t.name t.labels.length with
    | false =>
      refine evw_run primsC 0 rfl rfl rfl ?_
      rw [nf9, aggS, bind_some', Ty.cells_len, show Nat.beq 5 5 = true from rfl, condT, Ty.refold, bare_spec, onOut_ret, notB, bind_some', boolB, bind_some', hb, Bool.not_false, condT, Ty.right_eq]
      have : nodeR t.k t.n t.name t.labels t.args.length = false := by
        unfold nodeR
        unfold bareR at hb
        have e1 : decide ((t.labels.length : Int) > 0) = !((t.labels.length : Int) == 0) := by
          by_cases h0 : t.labels.length = 0
          · rw [h0]; rfl
          · rw [decide_eq_true (show (t.labels.length : Int) > 0 by omega), beq_false_of_ne (show (t.labels.length : Int) ≠ 0 by omega)]; rfl
        rw [e1]
        simp only [bne]
        revert hb
        cases t.k == 6 <;> cases t.k == 9 <;> cases t.k == 8 <;> cases t.n == 0 <;> cases emptyS t.name <;> cases (t.labels.length : Int) == 0 <;> intro hb <;> first | (cases hb; done) | simp
      rw [this, Bool.and_false]
    | true =>
      cases hr : Ty.rightL t.args with
      | false =>
        refine evw_run primsC 0 rfl rfl rfl ?_
        rw [nf9, aggS, bind_some', Ty.cells_len, show Nat.beq 5 5 = true from rfl, condT, Ty.refold, bare_spec, onOut_ret, notB, bind_some', boolB, bind_some', hb, Bool.not_true, condF, Ty.c4, h135, onOut_ret, boolB, bind_some', hr, Bool.not_false, condT, Ty.right_eq, hr, Bool.false_and]
      | true =>
        rw [hr, Bool.not_true] at h135
        have := pright_tail t.k t.n t.name t.labels t.args ok.lab h hb rfl h135
        rw [Ty.right_eq, hr, Bool.true_and]
        rw [show (⟨t.k, t.n, t.name, t.labels, t.args⟩ : Ty) = t from by cases t; rfl] at this
        exact this
  termination_by t => SizeOf.sizeOf t
  decreasing_by exact Ty.size_arg hi
end Go.Sh.T

namespace Go.Sh.T
open Go Go.Sh
set_option linter.unusedSimpArgs false
set_option linter.unusedVariables false

structure Val where
  k : Int
  n : Int
  m : Int
  inn : Bool
  s : ByteArray
  df : ByteArray
  nd : Int
  types : List Ty
  labels : List ByteArray
  kids : List Val
structure Core where
  k : Int
  n : Int
  m : Int
  inn : Bool
  name : ByteArray
  df : ByteArray
  nd : Int
  types : List Ty
  labels : List ByteArray
  kids : List Core
  vals : List Val

mutual
def Val.cells : Val → List AV
  | ⟨k, n, m, b, s, d, e, ts, ls, xs⟩ => [.lit (.int .i64 k), .lit (.int .i64 n), .lit (.int .i64 m), .lit (.bool b), .lit (.string s), .lit (.string d), .lit (.int .i64 e), .sl 5 (ts.map Ty.cells), .sl 1 (ls.map strC), .sl 10 (Val.cellsL xs)]
def Val.cellsL : List Val → List (List AV)
  | [] => []
  | t :: r => t.cells :: Val.cellsL r
end
theorem Val.cellsL_map : ∀ l : List Val, Val.cellsL l = l.map Val.cells
  | [] => rfl
  | t :: r => by rw [Val.cellsL, Val.cellsL_map r]; rfl
theorem Val.cells_eq (t : Val) : t.cells = [.lit (.int .i64 t.k), .lit (.int .i64 t.n), .lit (.int .i64 t.m), .lit (.bool t.inn), .lit (.string t.s), .lit (.string t.df), .lit (.int .i64 t.nd), .sl 5 (t.types.map Ty.cells), .sl 1 (t.labels.map strC), .sl 10 (t.kids.map Val.cells)] := by
  cases t; rw [Val.cells, Val.cellsL_map]
mutual
def Core.cells : Core → List AV
  | ⟨k, n, m, b, s, d, e, ts, ls, xs, vs⟩ => [.lit (.int .i64 k), .lit (.int .i64 n), .lit (.int .i64 m), .lit (.bool b), .lit (.string s), .lit (.string d), .lit (.int .i64 e), .sl 5 (ts.map Ty.cells), .sl 1 (ls.map strC), .sl 11 (Core.cellsL xs), .sl 10 (vs.map Val.cells)]
def Core.cellsL : List Core → List (List AV)
  | [] => []
  | t :: r => t.cells :: Core.cellsL r
end
theorem Core.cellsL_map : ∀ l : List Core, Core.cellsL l = l.map Core.cells
  | [] => rfl
  | t :: r => by rw [Core.cellsL, Core.cellsL_map r]; rfl
theorem Core.cells_eq (t : Core) : t.cells = [.lit (.int .i64 t.k), .lit (.int .i64 t.n), .lit (.int .i64 t.m), .lit (.bool t.inn), .lit (.string t.name), .lit (.string t.df), .lit (.int .i64 t.nd), .sl 5 (t.types.map Ty.cells), .sl 1 (t.labels.map strC), .sl 11 (t.kids.map Core.cells), .sl 10 (t.vals.map Val.cells)] := by
  cases t; rw [Core.cells, Core.cellsL_map]

@[simp] theorem Val.cells_len (t : Val) : t.cells.length = 10 := by rw [Val.cells_eq]; rfl
@[simp] theorem Val.c0 (t : Val) : t.cells.getD 0 .dead = .lit (.int .i64 t.k) := by rw [Val.cells_eq]; rfl
@[simp] theorem Val.c1 (t : Val) : t.cells.getD 1 .dead = .lit (.int .i64 t.n) := by rw [Val.cells_eq]; rfl
@[simp] theorem Val.c2 (t : Val) : t.cells.getD 2 .dead = .lit (.int .i64 t.m) := by rw [Val.cells_eq]; rfl
@[simp] theorem Val.c3 (t : Val) : t.cells.getD 3 .dead = .lit (.bool t.inn) := by rw [Val.cells_eq]; rfl
@[simp] theorem Val.c4 (t : Val) : t.cells.getD 4 .dead = .lit (.string t.s) := by rw [Val.cells_eq]; rfl
@[simp] theorem Val.c5 (t : Val) : t.cells.getD 5 .dead = .lit (.string t.df) := by rw [Val.cells_eq]; rfl
@[simp] theorem Val.c6 (t : Val) : t.cells.getD 6 .dead = .lit (.int .i64 t.nd) := by rw [Val.cells_eq]; rfl
@[simp] theorem Val.c7 (t : Val) : t.cells.getD 7 .dead = .sl 5 (t.types.map Ty.cells) := by rw [Val.cells_eq]; rfl
@[simp] theorem Val.c8 (t : Val) : t.cells.getD 8 .dead = .sl 1 (t.labels.map strC) := by rw [Val.cells_eq]; rfl
@[simp] theorem Val.c9 (t : Val) : t.cells.getD 9 .dead = .sl 10 (t.kids.map Val.cells) := by rw [Val.cells_eq]; rfl
theorem Val.re (t : Val) : [t.cells.getD 0 .dead, t.cells.getD 1 .dead, t.cells.getD 2 .dead, t.cells.getD 3 .dead, t.cells.getD 4 .dead, t.cells.getD 5 .dead, t.cells.getD 6 .dead, t.cells.getD 7 .dead, t.cells.getD 8 .dead, t.cells.getD 9 .dead] = t.cells := by
  rw [Val.cells_eq]; rfl
@[simp] theorem Core.cells_len (t : Core) : t.cells.length = 11 := by rw [Core.cells_eq]; rfl
@[simp] theorem Core.c0 (t : Core) : t.cells.getD 0 .dead = .lit (.int .i64 t.k) := by rw [Core.cells_eq]; rfl
@[simp] theorem Core.c1 (t : Core) : t.cells.getD 1 .dead = .lit (.int .i64 t.n) := by rw [Core.cells_eq]; rfl
@[simp] theorem Core.c2 (t : Core) : t.cells.getD 2 .dead = .lit (.int .i64 t.m) := by rw [Core.cells_eq]; rfl
@[simp] theorem Core.c3 (t : Core) : t.cells.getD 3 .dead = .lit (.bool t.inn) := by rw [Core.cells_eq]; rfl
@[simp] theorem Core.c4 (t : Core) : t.cells.getD 4 .dead = .lit (.string t.name) := by rw [Core.cells_eq]; rfl
@[simp] theorem Core.c5 (t : Core) : t.cells.getD 5 .dead = .lit (.string t.df) := by rw [Core.cells_eq]; rfl
@[simp] theorem Core.c6 (t : Core) : t.cells.getD 6 .dead = .lit (.int .i64 t.nd) := by rw [Core.cells_eq]; rfl
@[simp] theorem Core.c7 (t : Core) : t.cells.getD 7 .dead = .sl 5 (t.types.map Ty.cells) := by rw [Core.cells_eq]; rfl
@[simp] theorem Core.c8 (t : Core) : t.cells.getD 8 .dead = .sl 1 (t.labels.map strC) := by rw [Core.cells_eq]; rfl
@[simp] theorem Core.c9 (t : Core) : t.cells.getD 9 .dead = .sl 11 (t.kids.map Core.cells) := by rw [Core.cells_eq]; rfl
@[simp] theorem Core.c10 (t : Core) : t.cells.getD 10 .dead = .sl 10 (t.vals.map Val.cells) := by rw [Core.cells_eq]; rfl
theorem Core.re (t : Core) : [t.cells.getD 0 .dead, t.cells.getD 1 .dead, t.cells.getD 2 .dead, t.cells.getD 3 .dead, t.cells.getD 4 .dead, t.cells.getD 5 .dead, t.cells.getD 6 .dead, t.cells.getD 7 .dead, t.cells.getD 8 .dead, t.cells.getD 9 .dead, t.cells.getD 10 .dead] = t.cells := by
  rw [Core.cells_eq]; rfl

inductive Val.Ok : Val → Prop
  | mk {t : Val} (hs : t.s.size ≤ maxLen) (hd : t.df.size ≤ maxLen) (htl : t.types.length ≤ maxLen) (hts : ∀ a ∈ t.types, a.Ok) (hl : t.labels.length ≤ maxLen) (hls : ∀ s ∈ t.labels, s.size ≤ maxLen) (ha : t.kids.length ≤ maxLen) (has : ∀ a ∈ t.kids, a.Ok) : t.Ok
inductive Core.Ok : Core → Prop
  | mk {t : Core} (hk : (Lit.int .i64 t.k).wf = true) (hn : (Lit.int .i64 t.n).wf = true) (hm : (Lit.int .i64 t.m).wf = true) (he : (Lit.int .i64 t.nd).wf = true) (hs : t.name.size ≤ maxLen) (hd : t.df.size ≤ maxLen) (htl : t.types.length ≤ maxLen) (hts : ∀ a ∈ t.types, a.Ok) (hl : t.labels.length ≤ maxLen) (hls : ∀ s ∈ t.labels, s.size ≤ maxLen) (ha : t.kids.length ≤ maxLen) (has : ∀ a ∈ t.kids, a.Ok) (hv : t.vals.length ≤ maxLen) (hvs : ∀ a ∈ t.vals, a.Ok) : t.Ok
theorem Val.Ok.len {t : Val} (h : t.Ok) : t.kids.length ≤ maxLen := by cases h with | mk _ _ _ _ _ _ ha _ => exact ha
theorem Val.Ok.kid {t : Val} (h : t.Ok) {a : Val} (ha : a ∈ t.kids) : a.Ok := by cases h with | mk _ _ _ _ _ _ _ has => exact has a ha
theorem Val.Ok.tlen {t : Val} (h : t.Ok) : t.types.length ≤ maxLen := by cases h with | mk _ _ ha _ _ _ _ _ => exact ha
theorem Val.Ok.ty {t : Val} (h : t.Ok) {a : Ty} (ha : a ∈ t.types) : a.Ok := by cases h with | mk _ _ _ has _ _ _ _ => exact has a ha
theorem Val.Ok.lab {t : Val} (h : t.Ok) : t.labels.length ≤ maxLen := by cases h with | mk _ _ _ _ ha _ _ _ => exact ha
theorem Val.Ok.str {t : Val} (h : t.Ok) : t.s.size ≤ maxLen := by cases h with | mk hs _ _ _ _ _ _ _ => exact hs
theorem Val.Ok.def {t : Val} (h : t.Ok) : t.df.size ≤ maxLen := by cases h with | mk _ hs _ _ _ _ _ _ => exact hs
theorem Core.Ok.len {t : Core} (h : t.Ok) : t.kids.length ≤ maxLen := by cases h with | mk _ _ _ _ _ _ _ _ _ _ ha _ _ _ => exact ha
theorem Core.Ok.kid {t : Core} (h : t.Ok) {a : Core} (ha : a ∈ t.kids) : a.Ok := by cases h with | mk _ _ _ _ _ _ _ _ _ _ _ has _ _ => exact has a ha
theorem Core.Ok.tlen {t : Core} (h : t.Ok) : t.types.length ≤ maxLen := by cases h with | mk _ _ _ _ _ _ ha _ _ _ _ _ _ _ => exact ha
theorem Core.Ok.ty {t : Core} (h : t.Ok) {a : Ty} (ha : a ∈ t.types) : a.Ok := by cases h with | mk _ _ _ _ _ _ _ has _ _ _ _ _ _ => exact has a ha
theorem Core.Ok.lab {t : Core} (h : t.Ok) : t.labels.length ≤ maxLen := by cases h with | mk _ _ _ _ _ _ _ _ ha _ _ _ _ _ => exact ha
theorem Core.Ok.str {t : Core} (h : t.Ok) : t.name.size ≤ maxLen := by cases h with | mk _ _ _ _ hs _ _ _ _ _ _ _ _ _ => exact hs
theorem Core.Ok.def {t : Core} (h : t.Ok) : t.df.size ≤ maxLen := by cases h with | mk _ _ _ _ _ hs _ _ _ _ _ _ _ _ => exact hs
theorem Val.size_kid {t : Val} {i : Nat} (hi : i < t.kids.length) : SizeOf.sizeOf t.kids[i] < SizeOf.sizeOf t := by
  have := List.sizeOf_lt_of_mem (List.getElem_mem hi)
  cases t; simp only [Val.mk.sizeOf_spec] at *; omega
theorem Core.size_kid {t : Core} {i : Nat} (hi : i < t.kids.length) : SizeOf.sizeOf t.kids[i] < SizeOf.sizeOf t := by
  have := List.sizeOf_lt_of_mem (List.getElem_mem hi)
  cases t; simp only [Core.mk.sizeOf_spec] at *; omega

/- strings: the same bytes, the same string -/
theorem toList_loop (s : ByteArray) : ∀ (m i : Nat) (r : List UInt8), s.size ≤ m + i → ByteArray.toList.loop s i r = r.reverse ++ s.data.toList.drop i
  | 0, i, r, h => by
    unfold ByteArray.toList.loop
    rw [if_neg (by omega), List.drop_of_length_le (show s.size ≤ i by omega), List.append_nil]
  | m + 1, i, r, h => by
    unfold ByteArray.toList.loop
    split
    · rename_i hi
      have hi' : i < s.data.toList.length := hi
      have e : s.get! i = s.data.toList[i]'hi' := by
        show s.data[i]! = _
        rw [getElem!_pos s.data i hi]; rfl
      rw [toList_loop s m (i + 1) _ (by omega), List.drop_eq_getElem_cons hi', e, List.reverse_cons, List.append_assoc]; rfl
    · rename_i hi
      rw [List.drop_of_length_le (show s.size ≤ i by omega), List.append_nil]
theorem toList_data (s : ByteArray) : s.toList = s.data.toList := by
  unfold ByteArray.toList
  rw [toList_loop s s.size 0 [] (by omega)]; rfl
theorem strEq_iff {a b : ByteArray} : strEq a b = true ↔ a = b := by
  unfold strEq
  rw [beq_iff_eq, toList_data, toList_data]
  constructor
  · intro h
    cases a; cases b
    rename_i x y
    cases x; cases y
    have h : (_ : List UInt8) = _ := h
    exact congrArg (fun l => ByteArray.mk (Array.mk l)) h
  · rintro rfl; rfl

/- the same types -/
theorem sameS_iff : ∀ (l m : List ByteArray), (decide (l.length = m.length) && sameS l m) = true ↔ l = m
  | [], [] => by simp [sameS]
  | [], y :: m => by simp
  | x :: l, [] => by simp
  | x :: l, y :: m => by
    have := sameS_iff l m
    rw [Bool.and_eq_true, decide_eq_true_iff] at this
    rw [Bool.and_eq_true, decide_eq_true_iff, sameS, Bool.and_eq_true, strEq_iff, List.cons.injEq, ← this]
    simp only [List.length_cons, Nat.add_right_cancel_iff]
    exact ⟨fun ⟨a, b, c⟩ => ⟨b, a, c⟩, fun ⟨b, a, c⟩ => ⟨a, b, c⟩⟩
mutual
theorem Ty.same_iff : ∀ t u : Ty, t.same u = true ↔ t = u
  | ⟨k, n, s, ls, xs⟩, ⟨k', n', s', ls', xs'⟩ => by
    have h1 := Ty.sameL_iff xs xs'
    have h2 := sameS_iff ls ls'
    rw [Ty.same]
    simp only [Bool.and_eq_true, decide_eq_true_iff, strEq_iff, Ty.mk.injEq, Bool.not_eq_true', bne_eq_false_iff_eq] at *
    rw [← h1, ← h2]
    constructor
    · rintro ⟨⟨⟨⟨⟨a, b⟩, c⟩, d⟩, e⟩, f⟩; exact ⟨a, b, c, d, e, f⟩
    · rintro ⟨a, b, c, d, e, f⟩; exact ⟨⟨⟨⟨⟨a, b⟩, c⟩, d⟩, e⟩, f⟩
theorem Ty.sameL_iff : ∀ l m : List Ty, (decide (l.length = m.length) && Ty.sameL l m) = true ↔ l = m
  | [], [] => by simp [Ty.sameL]
  | [], y :: m => by simp
  | x :: l, [] => by simp
  | x :: l, y :: m => by
    have h1 := Ty.same_iff x y
    have h2 := Ty.sameL_iff l m
    rw [Bool.and_eq_true, decide_eq_true_iff] at h2
    rw [Bool.and_eq_true, decide_eq_true_iff, Ty.sameL, Bool.and_eq_true, h1, List.cons.injEq, ← h2]
    simp only [List.length_cons, Nat.add_right_cancel_iff]
    exact ⟨fun ⟨a, b, c⟩ => ⟨b, a, c⟩, fun ⟨b, a, c⟩ => ⟨a, b, c⟩⟩
end

/-- Are they the same: the law's question. -/
noncomputable def eqd {α : Type} (a b : α) : Bool := @decide (a = b) (Classical.propDecidable _)
theorem eqd_iff {α : Type} {a b : α} : eqd a b = true ↔ a = b := by unfold eqd; exact @decide_eq_true_iff _ (Classical.propDecidable _)
theorem eqd_self {α : Type} (a : α) : eqd a a = true := eqd_iff.2 rfl
theorem eqd_f {α : Type} {a b : α} (h : a ≠ b) : eqd a b = false := by
  cases e : eqd a b with
  | false => rfl
  | true => exact absurd (eqd_iff.1 e) h
theorem Ty.same_eqd (t u : Ty) : t.same u = eqd t u := by rw [Bool.eq_iff_iff, Ty.same_iff, eqd_iff]
theorem strEq_eqd (a b : ByteArray) : strEq a b = eqd a b := by rw [Bool.eq_iff_iff, strEq_iff, eqd_iff]
theorem int_eqd (a b : Int) : (a == b) = eqd a b := by rw [Bool.eq_iff_iff, beq_iff_eq, eqd_iff]
theorem bool_eqd (a b : Bool) : (a == b) = eqd a b := by rw [Bool.eq_iff_iff, beq_iff_eq, eqd_iff]
theorem sameS_eqd (l m : List ByteArray) : (decide (l.length = m.length) && sameS l m) = eqd l m := by rw [Bool.eq_iff_iff, sameS_iff, eqd_iff]
theorem eqd_cons {α : Type} (a b : α) (l m : List α) : eqd (a :: l) (b :: m) = (eqd a b && eqd l m) := by
  rw [Bool.eq_iff_iff, Bool.and_eq_true, eqd_iff, eqd_iff, eqd_iff, List.cons.injEq]
theorem eqd_len {α : Type} {l m : List α} (h : l.length ≠ m.length) : eqd l m = false := eqd_f fun e => h (by rw [e])
theorem Val.eqd_eq (a b : Val) : eqd a b = (eqd a.k b.k && (eqd a.n b.n && (eqd a.m b.m && (eqd a.inn b.inn && (eqd a.s b.s && ((eqd a.df b.df && eqd a.nd b.nd) && (eqd a.types b.types && (eqd a.labels b.labels && eqd a.kids b.kids)))))))) := by
  rw [Bool.eq_iff_iff]
  simp only [Bool.and_eq_true, eqd_iff]
  cases a; cases b
  simp only [Val.mk.injEq]
  constructor
  · rintro ⟨a, b, c, d, e, f, g, h, i, j⟩; exact ⟨a, b, c, d, e, ⟨f, g⟩, h, i, j⟩
  · rintro ⟨a, b, c, d, e, ⟨f, g⟩, h, i, j⟩; exact ⟨a, b, c, d, e, f, g, h, i, j⟩
theorem Core.eqd_eq (a b : Core) : eqd a b = (eqd a.k b.k && (eqd a.n b.n && (eqd a.m b.m && (eqd a.inn b.inn && (eqd a.name b.name && ((eqd a.df b.df && eqd a.nd b.nd) && (eqd a.types b.types && (eqd a.labels b.labels && (eqd a.vals b.vals && eqd a.kids b.kids))))))))) := by
  rw [Bool.eq_iff_iff]
  simp only [Bool.and_eq_true, eqd_iff]
  cases a; cases b
  simp only [Core.mk.injEq]
  constructor
  · rintro ⟨a, b, c, d, e, f, g, h, i, j, k⟩; exact ⟨a, b, c, d, e, ⟨f, g⟩, h, i, k, j⟩
  · rintro ⟨a, b, c, d, e, ⟨f, g⟩, h, i, j, k⟩; exact ⟨a, b, c, d, e, f, g, h, i, k, j⟩
end Go.Sh.T

namespace Go.Sh.T
open Go Go.Sh
set_option linter.unusedSimpArgs false
set_option linter.unusedVariables false
set_option maxRecDepth 100000
theorem apply_fn (F : Nat → List AV → Heap → R) (f : Nat) (args : List AV) (h : Heap) : applyV F (.fn f [] []) args h = F f args h := by
  have : applyV F (.fn f [] []) args h = F f (([] ++ args) ++ []) h := rfl
  rw [this, List.append_nil, List.nil_append]
theorem Ty.re (t : Ty) : [t.cells.getD 0 .dead, t.cells.getD 1 .dead, t.cells.getD 2 .dead, t.cells.getD 3 .dead, t.cells.getD 4 .dead] = t.cells := Ty.refold t
theorem int_ne (a b : Int) : (a != b) = !(eqd a b) := by rw [← int_eqd]; rfl
theorem neS (a b : ByteArray) : strBin .neq a b = some (.lit (.bool (!(eqd a b)))) := by
  have : strBin .neq a b = some (.lit (.bool (!(strEq a b)))) := (Eq.refl _).trans rfl
  rw [this, strEq_eqd]
theorem eqSt (a b : ByteArray) : strBin .eql a b = some (.lit (.bool (eqd a b))) := by
  have : strBin .eql a b = some (.lit (.bool (strEq a b))) := (Eq.refl _).trans rfl
  rw [this, strEq_eqd]
theorem eqB (a b : Bool) : binAV E .eql 4 (.lit (.bool a)) (.lit (.bool b)) = some (.lit (.bool (eqd a b))) := by
  have : binAV E .eql 4 (.lit (.bool a)) (.lit (.bool b)) = some (.lit (.bool (a == b))) := (Eq.refl _).trans (by kernel_rfl)
  rw [this, bool_eqd]
theorem same23 (t u : Ty) (h : Heap) (ok : t.Ok) : evw E 23 [.agg t.cells, .agg u.cells] h = some (.ret (.lit (.bool (eqd t u))), h) := by
  rw [same_spec t u h ok, Ty.same_eqd]
theorem same79e (l m : List ByteArray) (hl : l.length ≤ maxLen) (h : Heap) : evw E 17 [.sl 1 (l.map strC), .sl 1 (m.map strC)] h = some (.ret (.lit (.bool (eqd l m))), h) := by
  rw [same79 l m hl h, sameS_eqd]

theorem same100 (l m : List Ty) (hl : l.length ≤ maxLen) (h : Heap) (rec : ∀ i (h1 : i < l.length) (h2 : i < m.length), evw E 22 [.agg (l[i]).cells, .agg (m[i]).cells] h = some (.ret (.lit (.bool (eqd l[i] m[i]))), h)) : evw E 43 [.sl 5 (l.map Ty.cells), .sl 5 (m.map Ty.cells), .fn 22 [] []] h = some (.ret (.lit (.bool (eqd l m))), h) := by
  have hl : l.length ≤ 9223372036854775807 := hl
  have loop : ∀ (q i : Nat), l.length = m.length → i ≤ l.length → l.length < q + i → Lp43_0 (evw E) (l.length + 1) h q h (.sl 5 (m.map Ty.cells)) (.fn 22 [] []) (.sl 5 (l.map Ty.cells)) (.lit (.int .i64 (l.length : Int))) (.lit (.int .i64 (i : Int))) = some (.ret (.lit (.bool (eqd (l.drop i) (m.drop i)))), h) := by
    intro q
    induction q with
    | zero => intro i _ h1 h2; omega
    | succ q ih =>
      intro i he h1 h2
      rw [Lp43_0_succ, bin_int, lssI, bind_some', boolB, bind_some']
      by_cases hi : i < l.length
      · have hj : i < m.length := by omega
        rw [ltT hi, condT, indexA_map _ _ _ _ hi, bind_some', partA_full (Ty.cells_len _), bind_some', aggS, bind_some', Ty.cells_len, show Nat.beq 5 5 = true from rfl, condT, indexA_map _ _ _ _ hj, bind_some', partA_full (Ty.cells_len _), bind_some', aggS, bind_some', Ty.cells_len, show Nat.beq 5 5 = true from rfl, condT, Ty.re, Ty.re, apply_fn, rec i hi hj, onOut_ret, notB, bind_some', boolB, bind_some', List.drop_eq_getElem_cons hi, List.drop_eq_getElem_cons hj, eqd_cons, bin_int, addI, bind_some', incI (by omega)]
        cases e : eqd l[i] m[i] with
        | false => rfl
        | true => exact ih (i + 1) he hi (by omega)
      · rw [ltF hi, condF, List.drop_of_length_le (by omega), List.drop_of_length_le (by omega), eqd_self]
  refine evw_run primsC (l.length + 1) rfl rfl rfl ?_
  rw [nf43]
  simp only [lenA23, bind_some', bin_int, neqI, boolB, List.length_map]
  by_cases he : l.length = m.length
  · have := loop (l.length + 1) 0 he (Nat.zero_le _) (by omega)
    rw [show ((l.length : Int) != (m.length : Int)) = false from by rw [he]; simp, condF]
    rw [show ((0 : Nat) : Int) = 0 from rfl, List.drop_zero, List.drop_zero] at this
    exact this
  · rw [show ((l.length : Int) != (m.length : Int)) = true from by rw [bne_iff_ne]; omega, condT, eqd_len he]


theorem same102 (l m : List ByteArray) (hl : l.length ≤ maxLen) (h : Heap) : evw E 42 [.sl 1 (l.map strC), .sl 1 (m.map strC)] h = some (.ret (.lit (.bool (eqd l m))), h) := by
  have hl : l.length ≤ 9223372036854775807 := hl
  have loop : ∀ (q i : Nat), l.length = m.length → i ≤ l.length → l.length < q + i → Lp42_0 (evw E) (l.length + 1) h q h (.sl 1 (l.map strC)) (.sl 1 (m.map strC)) (.lit (.int .i64 (l.length : Int))) (.lit (.int .i64 (i : Int))) = some (.ret (.lit (.bool (eqd (l.drop i) (m.drop i)))), h) := by
    intro q
    induction q with
    | zero => intro i _ h1 h2; omega
    | succ q ih =>
      intro i he h1 h2
      rw [Lp42_0_succ, bin_int, lssI, bind_some', boolB, bind_some']
      by_cases hi : i < l.length
      · have hj : i < m.length := by omega
        rw [ltT hi, condT, indexA_map _ _ _ _ hi, bind_some', part_str, bind_some', indexA_map _ _ _ _ hj, bind_some', part_str, bind_some', bin_str, neS, bind_some', boolB, bind_some', List.drop_eq_getElem_cons hi, List.drop_eq_getElem_cons hj, eqd_cons, bin_int, addI, bind_some', incI (by omega)]
        cases e : eqd l[i] m[i] with
        | false => rfl
        | true => exact ih (i + 1) he hi (by omega)
      · rw [ltF hi, condF, List.drop_of_length_le (by omega), List.drop_of_length_le (by omega), eqd_self]
  refine evw_run primsC (l.length + 1) rfl rfl rfl ?_
  rw [nf42]
  simp only [lenA22, bind_some', bin_int, neqI, boolB, List.length_map]
  by_cases he : l.length = m.length
  · have := loop (l.length + 1) 0 he (Nat.zero_le _) (by omega)
    rw [show ((l.length : Int) != (m.length : Int)) = false from by rw [he]; simp, condF]
    rw [show ((0 : Nat) : Int) = 0 from rfl, List.drop_zero, List.drop_zero] at this
    exact this
  · rw [show ((l.length : Int) != (m.length : Int)) = true from by rw [bne_iff_ne]; omega, condT, eqd_len he]

/- ty.Same -/
theorem Ty.eqd_eq (a b : Ty) : eqd a b = (eqd a.k b.k && (eqd a.n b.n && (eqd a.name b.name && (eqd a.labels b.labels && eqd a.args b.args)))) := by
  rw [Bool.eq_iff_iff]
  simp only [Bool.and_eq_true, eqd_iff]
  cases a; cases b
  simp only [Ty.mk.injEq]
theorem same101 : ∀ (t u : Ty) (h : Heap), t.Ok → evw E 22 [.agg t.cells, .agg u.cells] h = some (.ret (.lit (.bool (eqd t u))), h)
  | t, u, h, ok => by
    have hrec := same100 t.args u.args ok.len h fun i h1 h2 => same101 t.args[i] u.args[i] h (ok.arg (List.getElem_mem h1))
    refine evw_run primsC 0 rfl rfl rfl ?_
    rw [nf22]
    simp only [aggS, bind_some', Ty.cells_len, show Nat.beq 5 5 = true from rfl, condT, Ty.c0, Ty.c1, Ty.c2, Ty.c3, Ty.c4, bin_int, eqlI, int_eqd, bin_str, eqSt, boolB, same102 _ _ ok.lab, hrec, onOut_ret]
    rw [Ty.eqd_eq]
    cases eqd t.k u.k <;> cases eqd t.n u.n <;> cases eqd t.name u.name <;> cases eqd t.labels u.labels <;> rfl
  termination_by t => SizeOf.sizeOf t
  decreasing_by exact Ty.size_arg h1

/- values -/
/- terms -/
end Go.Sh.T
