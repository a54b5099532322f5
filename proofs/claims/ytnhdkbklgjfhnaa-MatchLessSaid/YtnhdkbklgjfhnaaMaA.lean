/- MaA: part of the proof: a shadow of the machine that is proved sound, and what the functions of this seat compute. Conditions: none. -/
import Derived.Test.YtnhdkbklgjfhnaaShB
import Derived.IntWalk
import Derived.Test.YtnhdkbklgjfhnaaProg
/- Types as plain data: what the shadow's cells of a type are. -/
namespace Go.Sh.T
set_option linter.unusedVariables false
set_option linter.unusedSimpArgs false
open Go Go.Sh

structure Ty where
  k : Int
  n : Int
  name : ByteArray
  labels : List ByteArray
  args : List Ty

def strC (s : ByteArray) : List AV := [.lit (.string s)]

mutual
def Ty.cells : Ty → List AV
  | ⟨k, n, s, ls, xs⟩ => [.lit (.int .i64 k), .lit (.int .i64 n), .lit (.string s), .sl 1 (ls.map strC), .sl 5 (Ty.cellsL xs)]
def Ty.cellsL : List Ty → List (List AV)
  | [] => []
  | t :: r => t.cells :: Ty.cellsL r
end

theorem Ty.cellsL_map : ∀ l : List Ty, Ty.cellsL l = l.map Ty.cells
  | [] => rfl
  | t :: r => by rw [Ty.cellsL, Ty.cellsL_map r]; rfl

theorem Ty.cells_eq (t : Ty) : t.cells = [.lit (.int .i64 t.k), .lit (.int .i64 t.n), .lit (.string t.name), .sl 1 (t.labels.map strC), .sl 5 (t.args.map Ty.cells)] := by
  cases t; rw [Ty.cells, Ty.cellsL_map]

@[simp] theorem Ty.cells_len (t : Ty) : t.cells.length = 5 := by rw [Ty.cells_eq]; rfl
@[simp] theorem Ty.c0 (t : Ty) : t.cells.getD 0 .dead = .lit (.int .i64 t.k) := by rw [Ty.cells_eq]; rfl
@[simp] theorem Ty.c1 (t : Ty) : t.cells.getD 1 .dead = .lit (.int .i64 t.n) := by rw [Ty.cells_eq]; rfl
@[simp] theorem Ty.c2 (t : Ty) : t.cells.getD 2 .dead = .lit (.string t.name) := by rw [Ty.cells_eq]; rfl
@[simp] theorem Ty.c3 (t : Ty) : t.cells.getD 3 .dead = .sl 1 (t.labels.map strC) := by rw [Ty.cells_eq]; rfl
@[simp] theorem Ty.c4 (t : Ty) : t.cells.getD 4 .dead = .sl 5 (t.args.map Ty.cells) := by rw [Ty.cells_eq]; rfl
theorem partA_full {n : Nat} {cs : List AV} (h : cs.length = n) : partA true n 0 cs = some (.agg cs) := by
  unfold partA
  subst h
  rw [Nat.zero_add, show Nat.ble cs.length cs.length = true from by simp, cond_true, cond_true, List.drop_zero, List.take_length]
theorem bind_some' {α β : Type} (a : α) (f : α → Option β) : (some a).bind f = f a := (Eq.refl _).trans rfl
theorem onOut_ret {ρ : Type} (a : AV) (h : Heap) (k1 : AV → Heap → Option ρ) (k2 : Nat → List (List AV) → Heap → Option ρ) (k3 : AV → Heap → Option ρ) : onOut (some (.ret a, h)) k1 k2 k3 = k1 a h := (Eq.refl _).trans rfl
theorem bin_int {E : Env} (op : BinOp) (T : TypeId) (k : IntKind) (x y : Int) : binAV E op T (.lit (.int k x)) (.lit (.int k y)) = intBin op k x y := by simp [binAV]
theorem indexA_map {α : Type} (l : List α) (f : α → List AV) (m : Nat) (i : Nat) (h : i < l.length) : indexA m (.sl m (l.map f)) (.lit (.int .i64 (i : Int))) = some (f l[i]) := by
  simp [indexA, slOf, intOf, h]

mutual
def Ty.nodes : Ty → Int
  | ⟨_, _, _, _, xs⟩ => Ty.nodesL 1 xs
def Ty.nodesL : Int → List Ty → Int
  | acc, [] => acc
  | acc, t :: r => Ty.nodesL (IntKind.i64.wrap (acc + t.nodes)) r
end

inductive Ty.Ok : Ty → Prop
  | mk {t : Ty} (hk : (Lit.int .i64 t.k).wf = true) (hn : (Lit.int .i64 t.n).wf = true) (hs : t.name.size ≤ maxLen) (hl : t.labels.length ≤ maxLen) (hls : ∀ s ∈ t.labels, s.size ≤ maxLen) (ha : t.args.length ≤ maxLen) (has : ∀ a ∈ t.args, a.Ok) : t.Ok

theorem Ty.Ok.len {t : Ty} (h : t.Ok) : t.args.length ≤ 9223372036854775807 := by cases h with | mk _ _ _ _ _ ha _ => exact ha
theorem Ty.Ok.arg {t : Ty} (h : t.Ok) {a : Ty} (ha : a ∈ t.args) : a.Ok := by cases h with | mk _ _ _ _ _ _ has => exact has a ha

theorem Ty.size_arg {t : Ty} {i : Nat} (hi : i < t.args.length) : SizeOf.sizeOf t.args[i] < SizeOf.sizeOf t := by
  have := List.sizeOf_lt_of_mem (List.getElem_mem hi)
  cases t with
  | mk k n s ls xs => simp only [Ty.mk.sizeOf_spec] at *; omega

mutual
def Ty.has (k : Int) : Ty → Bool
  | ⟨k', _, _, _, xs⟩ => k' == k || Ty.hasL k xs
def Ty.hasL (k : Int) : List Ty → Bool
  | [] => false
  | t :: r => t.has k || Ty.hasL k r
end
theorem Ty.has_eq (k : Int) (t : Ty) : t.has k = (t.k == k || Ty.hasL k t.args) := by cases t; rw [Ty.has]

theorem Ty.refold (t : Ty) : [t.cells.getD 0 .dead, t.cells.getD 1 .dead, t.cells.getD 2 .dead, t.cells.getD 3 .dead, t.cells.getD 4 .dead] = t.cells := by
  rw [Ty.cells_eq]; rfl

mutual
def Ty.pre : Ty → List Ty
  | ⟨k, n, s, ls, xs⟩ => ⟨k, n, s, ls, xs⟩ :: Ty.preL xs
def Ty.preL : List Ty → List Ty
  | [] => []
  | t :: r => t.pre ++ Ty.preL r
end
mutual
theorem Ty.has_pre (k : Int) : ∀ t : Ty, t.has k = t.pre.any (fun x => x.k == k)
  | ⟨k', n, s, ls, xs⟩ => by rw [Ty.has, Ty.pre, List.any_cons, Ty.hasL_pre k xs]
theorem Ty.hasL_pre (k : Int) : ∀ l : List Ty, Ty.hasL k l = (Ty.preL l).any (fun x => x.k == k)
  | [] => by rw [Ty.hasL, Ty.preL]; rfl
  | t :: r => by rw [Ty.hasL, Ty.preL, List.any_append, Ty.has_pre k t, Ty.hasL_pre k r]
end

mutual
def Ty.small : Ty → Bool
  | ⟨_, _, _, _, xs⟩ => Nat.ble xs.length 9223372036854775807 && Ty.smallL xs
def Ty.smallL : List Ty → Bool
  | [] => true
  | t :: r => t.small && Ty.smallL r
end
mutual
theorem Ty.ok_small : ∀ t : Ty, t.Ok → t.small = true
  | ⟨k, n, s, ls, xs⟩, h => by
    rw [Ty.small, Bool.and_eq_true]
    exact ⟨by rw [Nat.ble_eq]; exact h.len, Ty.ok_smallL xs fun a ha => h.arg ha⟩
theorem Ty.ok_smallL : ∀ l : List Ty, (∀ a ∈ l, a.Ok) → Ty.smallL l = true
  | [], _ => by rw [Ty.smallL]
  | t :: r, h => by
    rw [Ty.smallL, Bool.and_eq_true]
    exact ⟨Ty.ok_small t (h t List.mem_cons_self), Ty.ok_smallL r fun a ha => h a (List.mem_cons_of_mem _ ha)⟩
end

/- reading a type back -/
def decS : List AV → Option ByteArray
  | [.lit (.string s)] => some s
  | _ => none
def decSs : List (List AV) → Option (List ByteArray)
  | [] => some []
  | x :: r => (decS x).bind fun s => (decSs r).bind fun l => some (s :: l)
mutual
def decA : AV → Option (List Ty)
  | .sl 5 es => decE es
  | _ => none
def decC : List AV → Option Ty
  | [] => none
  | a :: r => match a, r with
    | .lit (.int .i64 k), [.lit (.int .i64 n), .lit (.string s), .sl 1 ls, b] => (decSs ls).bind fun l => (decA b).bind fun xs => some ⟨k, n, s, l, xs⟩
    | _, _ => none
def decE : List (List AV) → Option (List Ty)
  | [] => some []
  | c :: r => (decC c).bind fun t => (decE r).bind fun l => some (t :: l)
end
theorem decS_ok : ∀ {x : List AV} {s : ByteArray}, decS x = some s → x = strC s := by
  intro x s h
  unfold decS at h
  split at h
  · have h := Option.some.inj h; subst h; rfl
  · cases h
theorem decSs_ok : ∀ {l : List (List AV)} {m : List ByteArray}, decSs l = some m → l = m.map strC
  | [], m, h => by cases h; rfl
  | x :: r, m, h => by
    unfold decSs at h
    rw [Option.bind_eq_some_iff] at h; obtain ⟨s, hs, h⟩ := h
    rw [Option.bind_eq_some_iff] at h; obtain ⟨l, hl, h⟩ := h
    have h := Option.some.inj h; subst h
    rw [decS_ok hs, decSs_ok hl]; rfl
mutual
theorem decA_ok : ∀ {a : AV} {l : List Ty}, decA a = some l → a = .sl 5 (l.map Ty.cells)
  | .sl n es, l, h => by
    unfold decA at h
    split at h
    · rename_i h1 h2; cases h2; rw [decE_ok h]
    · cases h
  | .lit _, l, h => by unfold decA at h; cases h
  | .agg _, l, h => by unfold decA at h; cases h
  | .tup _, l, h => by unfold decA at h; cases h
  | .hp _ _, l, h => by unfold decA at h; cases h
  | .ro _, l, h => by unfold decA at h; cases h
  | .fn _ _ _, l, h => by unfold decA at h; cases h
  | .ifc _ _, l, h => by unfold decA at h; cases h
  | .dead, l, h => by unfold decA at h; cases h
theorem decC_ok : ∀ {c : List AV} {t : Ty}, decC c = some t → c = t.cells
  | [], t, h => by unfold decC at h; cases h
  | a :: r, t, h => by
    unfold decC at h
    split at h
    · rename_i k n s ls b
      rw [Option.bind_eq_some_iff] at h; obtain ⟨l, hl, h⟩ := h
      rw [Option.bind_eq_some_iff] at h; obtain ⟨xs, hx, h⟩ := h
      have h := Option.some.inj h; subst h
      rw [Ty.cells_eq, decSs_ok hl, decA_ok hx]
    · cases h
theorem decE_ok : ∀ {es : List (List AV)} {l : List Ty}, decE es = some l → es = l.map Ty.cells
  | [], l, h => by unfold decE at h; cases h; rfl
  | c :: r, l, h => by
    unfold decE at h
    rw [Option.bind_eq_some_iff] at h; obtain ⟨t, ht, h⟩ := h
    rw [Option.bind_eq_some_iff] at h; obtain ⟨m, hm, h⟩ := h
    have h := Option.some.inj h; subst h
    rw [decC_ok ht, decE_ok hm]; rfl
end
theorem decSs_map : ∀ l : List ByteArray, decSs (l.map strC) = some l
  | [] => rfl
  | s :: r => by
    rw [List.map_cons, decSs, decSs_map r]; rfl
mutual
theorem decC_cells : ∀ t : Ty, decC t.cells = some t
  | ⟨k, n, s, ls, xs⟩ => by
    rw [Ty.cells, decC, decSs_map, decA, decE_cells xs]; rfl
theorem decE_cells : ∀ l : List Ty, decE (Ty.cellsL l) = some l
  | [] => by rw [Ty.cellsL, decE]
  | t :: r => by
    rw [Ty.cellsL, decE, decC_cells t, decE_cells r]; rfl
end

/- not by computing: the kernel is to compare nothing -/
theorem condF {α : Type} (x y : α) : cond false x y = y := by
  have h : ∀ b, b = false → cond b x y = y := by intro b hb; subst hb; rfl
  exact h false rfl
theorem condT {α : Type} (x y : α) : cond true x y = x := by
  have h : ∀ b, b = true → cond b x y = x := by intro b hb; subst hb; rfl
  exact h true rfl

def add64 (x y : Int) : Int := IntKind.i64.wrap (x + y)
def sub64 (x y : Int) : Int := IntKind.i64.wrap (x - y)
theorem lssI (x y : Int) : intBin .lss .i64 x y = some (.lit (.bool (decide (x < y)))) := (Eq.refl _).trans rfl
theorem gtrI (x y : Int) : intBin .gtr .i64 x y = some (.lit (.bool (decide (x > y)))) := (Eq.refl _).trans rfl
theorem leqI (x y : Int) : intBin .leq .i64 x y = some (.lit (.bool (decide (x ≤ y)))) := (Eq.refl _).trans rfl
theorem geqI (x y : Int) : intBin .geq .i64 x y = some (.lit (.bool (decide (x ≥ y)))) := (Eq.refl _).trans rfl
theorem eqlI (x y : Int) : intBin .eql .i64 x y = some (.lit (.bool (x == y))) := (Eq.refl _).trans rfl
theorem neqI (x y : Int) : intBin .neq .i64 x y = some (.lit (.bool (x != y))) := (Eq.refl _).trans rfl
theorem addI (x y : Int) : intBin .add .i64 x y = some (.lit (.int .i64 (add64 x y))) := (Eq.refl _).trans rfl
theorem subI (x y : Int) : intBin .sub .i64 x y = some (.lit (.int .i64 (sub64 x y))) := (Eq.refl _).trans rfl
theorem incI {i : Nat} (h : i < 9223372036854775807) : add64 (i : Int) 1 = ((i + 1 : Nat) : Int) := by
  unfold add64
  rw [IntWalk.i64_in _ (by omega)]; rfl
theorem boolB (b : Bool) : boolOf (.lit (.bool b)) = some b := (Eq.refl _).trans rfl
theorem notB (b : Bool) : unAV .not (.lit (.bool b)) = some (.lit (.bool (!b))) := (Eq.refl _).trans rfl
theorem aggS (l : List AV) : aggOf (.agg l) = some l := (Eq.refl _).trans rfl
theorem tupS (l : List AV) : tupOf (.tup l) = some l := (Eq.refl _).trans rfl
theorem ltT {i n : Nat} (h : i < n) : decide ((i : Int) < (n : Int)) = true := by simpa using h
theorem ltF {i n : Nat} (h : ¬ i < n) : decide ((i : Int) < (n : Int)) = false := by simpa using h

/- the heap -/
mutual
theorem Ty.cells_lt (m : Nat) : ∀ t : Ty, ∀ a ∈ t.cells, AV.lt m a
  | ⟨k, n, s, ls, xs⟩ => by
    intro a ha
    rw [Ty.cells] at ha
    simp only [List.mem_cons, List.not_mem_nil, or_false] at ha
    rcases ha with e | e | e | e | e
    · rw [e]; exact .lit _
    · rw [e]; exact .lit _
    · rw [e]; exact .lit _
    · rw [e]; refine .sl _ fun x hx b hb => ?_
      obtain ⟨s, _, rfl⟩ := List.mem_map.1 hx
      rcases List.mem_cons.1 hb with e | e
      · rw [e]; exact .lit _
      · cases e
    · rw [e]; exact .sl _ (Ty.cellsL_lt m xs)
theorem Ty.cellsL_lt (m : Nat) : ∀ l : List Ty, ∀ x ∈ Ty.cellsL l, ∀ a ∈ x, AV.lt m a
  | [] => by intro x hx; rw [Ty.cellsL] at hx; cases hx
  | t :: r => by
    intro x hx
    rw [Ty.cellsL] at hx
    rcases List.mem_cons.1 hx with e | e
    · rw [e]; exact Ty.cells_lt m t
    · exact Ty.cellsL_lt m r x e
end
end Go.Sh.T

namespace Go.Sh.T
open Go Go.Sh Go.Proofs
set_option maxRecDepth 1000000
set_option linter.unusedVariables false
noncomputable def ti1 : TI := { size := 1, bytes := 8, desc := .func #[] #[] false, zero := [.v (.lit .nilFunc)] }
theorem tok1 : TyOk Try.prog 1 ti1 := .of (by kernel_rfl) (by kernel_rfl)
noncomputable def ti3 : TI := { size := 1, bytes := 8, desc := .int .i64, zero := [.v (.lit (.int .i64 0))] }
theorem tok3 : TyOk Try.prog 3 ti3 := .of (by kernel_rfl) (by kernel_rfl)
noncomputable def ti4 : TI := { size := 1, bytes := 1, desc := .bool, zero := [.v (.lit (.bool false))] }
theorem tok4 : TyOk Try.prog 4 ti4 := .of (by kernel_rfl) (by kernel_rfl)
noncomputable def ti5 : TI := { size := 1, bytes := 1, desc := .int .u8, zero := [.v (.lit (.int .u8 0))] }
theorem tok5 : TyOk Try.prog 5 ti5 := .of (by kernel_rfl) (by kernel_rfl)
noncomputable def ti9 : TI := { size := 1, bytes := 16, desc := .string, zero := [.v (.lit (.string ByteArray.empty))] }
theorem tok9 : TyOk Try.prog 9 ti9 := .of (by kernel_rfl) (by kernel_rfl)
noncomputable def ti21 : TI := { size := 1, bytes := 4, desc := .int .i32, zero := [.v (.lit (.int .i32 0))] }
theorem tok21 : TyOk Try.prog 21 ti21 := .of (by kernel_rfl) (by kernel_rfl)
noncomputable def ti22 : TI := { size := 1, bytes := 24, desc := .slice 56, zero := [.nil 6] }
theorem tok22 : TyOk Try.prog 22 ti22 := .of (by kernel_rfl) (by kernel_rfl)
noncomputable def ti23 : TI := { size := 1, bytes := 24, desc := .slice 9, zero := [.nil 1] }
theorem tok23 : TyOk Try.prog 23 ti23 := .of (by kernel_rfl) (by kernel_rfl)
noncomputable def ti24 : TI := { size := 1, bytes := 24, desc := .slice 26, zero := [.nil 5] }
theorem tok24 : TyOk Try.prog 24 ti24 := .of (by kernel_rfl) (by kernel_rfl)
noncomputable def ti26 : TI := { size := 5, bytes := 80, desc := .struct #[⟨"K", 3, 0, false, "", "", 0⟩, ⟨"N", 3, 1, false, "", "", 8⟩, ⟨"Name", 9, 2, false, "", "", 16⟩, ⟨"Labels", 23, 3, false, "", "", 32⟩, ⟨"Args", 24, 4, false, "", "", 56⟩], zero := [.v (.lit (.int .i64 0)), .v (.lit (.int .i64 0)), .v (.lit (.string ByteArray.empty)), .nil 1, .nil 5] }
theorem tok26 : TyOk Try.prog 26 ti26 := .of (by kernel_rfl) (by kernel_rfl)
noncomputable def ti49 : TI := { size := 1, bytes := 8, desc := .func #[26] #[4] false, zero := [.v (.lit .nilFunc)] }
theorem tok49 : TyOk Try.prog 49 ti49 := .of (by kernel_rfl) (by kernel_rfl)
noncomputable def ti56 : TI := { size := 6, bytes := 96, desc := .struct #[⟨"Name", 9, 0, false, "", "", 0⟩, ⟨"Type", 26, 1, false, "", "", 16⟩], zero := [.v (.lit (.string ByteArray.empty)), .v (.lit (.int .i64 0)), .v (.lit (.int .i64 0)), .v (.lit (.string ByteArray.empty)), .nil 1, .nil 5] }
theorem tok56 : TyOk Try.prog 56 ti56 := .of (by kernel_rfl) (by kernel_rfl)
noncomputable def ti99 : TI := { size := 1, bytes := 24, desc := .slice 101, zero := [.nil 6] }
theorem tok99 : TyOk Try.prog 99 ti99 := .of (by kernel_rfl) (by kernel_rfl)
noncomputable def ti101 : TI := { size := 6, bytes := 96, desc := .struct #[⟨"label", 9, 0, false, "", "limbeck/ty", 0⟩, ⟨"t", 26, 1, false, "", "limbeck/ty", 16⟩], zero := [.v (.lit (.string ByteArray.empty)), .v (.lit (.int .i64 0)), .v (.lit (.int .i64 0)), .v (.lit (.string ByteArray.empty)), .nil 1, .nil 5] }
theorem tok101 : TyOk Try.prog 101 ti101 := .of (by kernel_rfl) (by kernel_rfl)
noncomputable def ti103 : TI := { size := 1, bytes := 8, desc := .func #[101, 101] #[3] false, zero := [.v (.lit .nilFunc)] }
theorem tok103 : TyOk Try.prog 103 ti103 := .of (by kernel_rfl) (by kernel_rfl)
noncomputable def fs : List (Nat × Func) := [(52, Try.f52), (59, Try.f59), (15, Try.f15), (20, Try.f20), (21, Try.f21), (23, Try.f23), (32, Try.f32), (33, Try.f33), (34, Try.f34), (36, Try.f36), (39, Try.f39), (41, Try.f41), (43, Try.f43), (45, Try.f45), (48, Try.f48), (67, Try.f67), (68, Try.f68), (69, Try.f69), (70, Try.f70), (71, Try.f71), (75, Try.f75), (76, Try.f76), (85, Try.f85), (102, Try.f102), (104, Try.f104), (128, Try.f128), (129, Try.f129), (130, Try.f130), (131, Try.f131), (149, Try.f149), (150, Try.f150), (151, Try.f151), (3, Try.f3), (4, Try.f4), (14, Try.f14), (16, Try.f16), (17, Try.f17), (18, Try.f18), (19, Try.f19), (22, Try.f22), (38, Try.f38), (40, Try.f40), (50, Try.f50), (62, Try.f62), (64, Try.f64), (65, Try.f65), (72, Try.f72), (73, Try.f73), (74, Try.f74), (88, Try.f88), (90, Try.f90), (91, Try.f91), (92, Try.f92), (93, Try.f93), (100, Try.f100), (103, Try.f103), (105, Try.f105), (121, Try.f121), (126, Try.f126), (101, Try.f101), (146, Try.f146), (127, Try.f127)]
noncomputable def gs : List (Nat × Func) := [(132, Try.f132)]
noncomputable def ts : List (Nat × TI) := [(1, ti1), (3, ti3), (4, ti4), (5, ti5), (9, ti9), (21, ti21), (22, ti22), (23, ti23), (24, ti24), (26, ti26), (49, ti49), (56, ti56), (99, ti99), (101, ti101), (103, ti103)]
noncomputable def hints : List (Nat × FHint) := [(52, { keep := [(0, [1, 3, 4])], base := [(6, 1), (13, 1)] }), (59, {}), (15, { keep := [(0, [0, 3])] }), (20, { base := [(7, 2), (11, 2), (20, 2), (26, 2)] }), (21, { keep := [(0, [2, 3, 5])], base := [(6, 2), (8, 3), (12, 2), (14, 3), (19, 2), (21, 3), (26, 2), (28, 3), (34, 2), (37, 3), (43, 2), (49, 3), (56, 2), (61, 3)] }), (23, { keep := [(0, [2, 3, 5])], base := [(13, 2), (19, 3), (26, 2), (31, 3)] }), (32, { keep := [(0, [1, 3])], base := [(5, 1), (11, 1), (18, 1), (22, 1), (27, 1), (31, 1), (37, 1), (41, 1), (47, 1), (51, 1), (55, 1), (59, 1), (62, 1), (66, 1), (71, 1), (74, 1), (78, 1), (83, 1), (88, 1), (91, 1), (95, 1), (99, 1), (104, 1), (107, 1)] }), (33, { keep := [(0, [1, 2, 5])], base := [(6, 2), (11, 2), (17, 2)] }), (34, { keep := [(0, [0, 3, 4])] }), (36, { keep := [(0, [1, 3, 4]), (2, [1, 3, 5])], base := [(6, 1), (11, 1), (16, 1), (27, 1), (36, 1), (47, 1)] }), (39, {}), (41, { base := [(8, 3), (13, 3)] }), (43, { keep := [(0, [0, 1, 5])] }), (45, { tr := [11], keep := [(0, [0, 3, 4])] }), (48, {}), (67, {}), (68, { keep := [(0, [0, 1, 5])] }), (69, {}), (70, {}), (71, {}), (75, {}), (76, { base := [(5, 2), (7, 3), (11, 2), (13, 3), (18, 2), (20, 3), (25, 2), (27, 3), (32, 2), (35, 3)] }), (85, { keep := [(0, [0, 3])] }), (102, {}), (104, { keep := [(0, [0, 4, 5])] }), (128, { keep := [(0, [0, 3, 4]), (2, [0, 5, 6])] }), (129, {}), (130, {}), (131, {}), (149, {}), (150, {}), (151, {}), (3, { base := [(32, 7), (36, 7)] }), (4, { base := [(66, 11), (72, 13), (78, 11), (82, 13), (90, 11), (94, 13)] }), (14, {}), (16, { base := [(30, 2), (35, 4), (40, 5)] }), (17, { base := [(17, 6)] }), (18, {}), (19, { base := [(28, 9)] }), (22, { keep := [(0, [0, 1, 5])] }), (38, { keep := [(0, [1, 4, 8, 9, 10])], base := [(14, 7), (18, 7)] }), (40, { base := [(8, 3), (14, 3)] }), (50, { base := [(7, 1), (11, 1), (19, 1), (25, 1), (30, 1), (36, 1), (41, 1), (46, 1), (52, 1), (58, 1), (61, 1), (66, 1)] }), (62, { tr := [25, 45, 52], keep := [(0, [1, 4, 6, 18, 19, 20]), (2, [4, 9, 38, 39, 40])], base := [(44, 9), (46, 11), (50, 9), (51, 9), (53, 11), (57, 9), (59, 9)] }), (64, { base := [(7, 2), (11, 2), (20, 2), (26, 2)] }), (65, {}), (72, {}), (73, { keep := [(0, [0, 4, 5, 9])], base := [(12, 5), (16, 4), (21, 5), (25, 4), (44, 4), (48, 5), (53, 5), (57, 4), (64, 4), (68, 5), (74, 4), (78, 5), (83, 5), (91, 5), (104, 5)] }), (74, {}), (88, {}), (90, { base := [(3, 1), (7, 1), (12, 1), (16, 1), (22, 1), (26, 1)] }), (91, {}), (92, {}), (93, { keep := [(0, [0, 5, 6, 7])] }), (100, {}), (103, { keep := [(0, [0, 1, 7, 8])] }), (105, {}), (121, { keep := [(0, [0, 1, 7, 8])] }), (126, { keep := [(0, [0, 1, 2, 6, 7, 8]), (2, [0, 1, 2, 6]), (4, [0, 1, 2, 6, 7, 8])] }), (101, { base := [(5, 2), (7, 3)] }), (146, { keep := [(0, [0, 1, 2, 3, 8]), (2, [0, 1, 2, 3, 8, 9])] }), (127, {})]
noncomputable def E0 : Env := mkEnv Try.prog fs ts [] hints []
theorem allF : AllF Try.prog fs := ⟨Try.func52, Try.func59, Try.func15, Try.func20, Try.func21, Try.func23, Try.func32, Try.func33, Try.func34, Try.func36, Try.func39, Try.func41, Try.func43, Try.func45, Try.func48, Try.func67, Try.func68, Try.func69, Try.func70, Try.func71, Try.func75, Try.func76, Try.func85, Try.func102, Try.func104, Try.func128, Try.func129, Try.func130, Try.func131, Try.func149, Try.func150, Try.func151, Try.func3, Try.func4, Try.func14, Try.func16, Try.func17, Try.func18, Try.func19, Try.func22, Try.func38, Try.func40, Try.func50, Try.func62, Try.func64, Try.func65, Try.func72, Try.func73, Try.func74, Try.func88, Try.func90, Try.func91, Try.func92, Try.func93, Try.func100, Try.func103, Try.func105, Try.func121, Try.func126, Try.func101, Try.func146, Try.func127, trivial⟩
theorem allG : AllF Try.prog gs := ⟨Try.func132, trivial⟩
theorem allT : AllT Try.prog ts := ⟨tok1, tok3, tok4, tok5, tok9, tok21, tok22, tok23, tok24, tok26, tok49, tok56, tok99, tok101, tok103, trivial⟩
theorem okE0 : E0.Ok := mkEnv_ok (gs := []) allF trivial allT (by kernel_rfl) rfl rfl (by kernel_rfl) (by kernel_rfl)
end Go.Sh.T

/- name.shape: a range over a string, by its shadow. -/
namespace Go.Sh.T
set_option maxRecDepth 100000
set_option linter.unusedVariables false
set_option linter.unusedSimpArgs false
open Go Go.Sh Go.Proofs

/- what is told of bytes -/
def lowB (c : Int) : Bool := bif decide (c ≥ 97) then decide (c ≤ 122) else false
def upB (c : Int) : Bool := bif decide (c ≥ 65) then decide (c ≤ 90) else false
def digB (c : Int) : Bool := bif decide (c ≥ 48) then decide (c ≤ 57) else false
def bytes (s : ByteArray) : List UInt8 := s.data.toList
theorem bytes_len (s : ByteArray) : (bytes s).length = s.size := by unfold bytes; exact Array.length_toList

namespace P132
theorem noPrims0 : PrimsOk E0 := fun f p h => by cases h
noncomputable def call0 : Nat → List AV → Heap → R := ev E0 3
theorem call0_ok : SoundC Try.prog call0 := ev_ok okE0 noPrims0 3
theorem low0 (c : Int) (h : Heap) : call0 149 [.lit (.int .i32 c)] h = some (.ret (.lit (.bool (lowB c))), h) := by
  have : call0 149 [.lit (.int .i32 c)] h = cond (decide (c ≥ 97)) (some (.ret (.lit (.bool (decide (c ≤ 122)))), h)) (some (.ret (.lit (.bool false)), h)) := by kernel_rfl
  rw [this]; unfold lowB; cases decide (c ≥ 97) <;> rfl
theorem up0 (c : Int) (h : Heap) : call0 150 [.lit (.int .i32 c)] h = some (.ret (.lit (.bool (upB c))), h) := by
  have : call0 150 [.lit (.int .i32 c)] h = cond (decide (c ≥ 65)) (some (.ret (.lit (.bool (decide (c ≤ 90)))), h)) (some (.ret (.lit (.bool false)), h)) := by kernel_rfl
  rw [this]; unfold upB; cases decide (c ≥ 65) <;> rfl
theorem dig0 (c : Int) (h : Heap) : call0 151 [.lit (.int .i32 c)] h = some (.ret (.lit (.bool (digB c))), h) := by
  have : call0 151 [.lit (.int .i32 c)] h = cond (decide (c ≥ 48)) (some (.ret (.lit (.bool (decide (c ≤ 57)))), h)) (some (.ret (.lit (.bool false)), h)) := by kernel_rfl
  rw [this]; unfold digB; cases decide (c ≥ 48) <;> rfl

def pL : Code → Code
  | .seq a _ => a
  | .block _ c => c
  | .loop c => c
  | .cond _ a _ => a
  | c => c
def pR : Code → Code
  | .seq _ b => b
  | .cond _ _ b => b
  | c => c
def opsOf : Code → Array Oper
  | .region _ ops _ => ops
  | _ => #[]
noncomputable def body : Code := Try.f132.body.getD .skip
noncomputable def R0 := pL body
noncomputable def R1 := pL (pL (pR body))
noncomputable def R2 := pL (pL (pR (pL (pR body))))
noncomputable def R3 := pL (pR (pR body))
noncomputable def t4 := pR (pR (pR body))
noncomputable def R4 := pL (pL t4)
noncomputable def lp := pL (pL (pR (pL t4)))
noncomputable def R5 := pL lp
noncomputable def b1 := pR (pR lp)
noncomputable def R14 := pL (pR t4)
noncomputable def o4 (i : Nat) : Oper := (opsOf R4).getD i default
noncomputable def o5 (i : Nat) : Oper := (opsOf R5).getD i default
abbrev S (l : List (Nat × Slot)) (h : Heap) : St := { s := lkS l, h := h }
noncomputable abbrev ev0 (L : List Nat) (c : Code) (st : St) : Option (List (Nat × Slot) × Heap) := evC E0 {} Try.f132.ntmps call0 0 c 0 st (kL L) kN
abbrev iv (i : Int) : Slot := .c (.v (.lit (.int .i64 i)))
abbrev bv (b : Bool) : Slot := .c (.v (.lit (.bool b)))
abbrev sv (s : ByteArray) : Slot := .c (.v (.lit (.string s)))
abbrev pv (k : Nat) : Slot := .c (.v (.lit (.pointer (some ⟨k, 0, none⟩))))

/-- What a round's body comes to. -/
def kS : Ex → St → Option ((AV × AV × Heap) ⊕ (AV × Heap))
  | .normal, st => ((st.s 3).av).bind fun a => ((st.s 10).av).bind fun b => some (.inl (a, b, st.h))
  | .ret, st => ((st.s 2).av).bind fun a => some (.inr (a, st.h))
  | _, _ => none
theorem b1nf (h : Heap) (x3 x10 x13 x14 : AV) : evC E0 {} Try.f132.ntmps call0 0 b1 0 (S [(3, .c (.v x3)), (10, .c (.v x10)), (11, .c (.v (.tup [.lit (.bool true), x13, x14])))] h) kS kN = (binAV E0 .eql 3 x13 (.lit (.int .i64 0))).bind fun r1 => (boolOf r1).bind fun b2 => cond b2 (onOut (call0 149 [x14] h) (fun a3 h4 => (boolOf a3).bind fun b5 => cond b5 (some (.inl (.lit (.int .i64 1), x10, h4))) ((binAV E0 .eql 3 x13 (.lit (.int .i64 0))).bind fun r6 => (boolOf r6).bind fun b7 => cond b7 (onOut (call0 150 [x14] h4) (fun a8 h9 => (boolOf a8).bind fun b10 => cond b10 (some (.inl (.lit (.int .i64 2), x10, h9))) ((binAV E0 .gtr 3 x13 (.lit (.int .i64 0))).bind fun r11 => (boolOf r11).bind fun b12 => cond b12 ((binAV E0 .neq 3 x3 (.lit (.int .i64 0))).bind fun r13 => (boolOf r13).bind fun b14 => cond b14 (onOut (call0 149 [x14] h9) (fun a15 h16 => (boolOf a15).bind fun b17 => cond b17 (some (.inl (x3, x10, h16))) (onOut (call0 151 [x14] h16) (fun a18 h19 => (boolOf a18).bind fun b20 => cond b20 (some (.inl (x3, x10, h19))) ((binAV E0 .gtr 3 x13 (.lit (.int .i64 0))).bind fun r21 => (boolOf r21).bind fun b22 => cond b22 ((binAV E0 .eql 3 x3 (.lit (.int .i64 2))).bind fun r23 => (boolOf r23).bind fun b24 => cond b24 (onOut (call0 150 [x14] h19) (fun a25 h26 => (boolOf a25).bind fun b27 => cond b27 (some (.inl (x3, x10, h26))) (some (.inr (.lit (.int .i64 0), h26)))) (fun _ _ _ => none) (fun _ _ => none)) (some (.inr (.lit (.int .i64 0), h19)))) (some (.inr (.lit (.int .i64 0), h19))))) (fun _ _ _ => none) (fun _ _ => none))) (fun _ _ _ => none) (fun _ _ => none)) ((binAV E0 .gtr 3 x13 (.lit (.int .i64 0))).bind fun r28 => (boolOf r28).bind fun b29 => cond b29 ((binAV E0 .eql 3 x3 (.lit (.int .i64 2))).bind fun r30 => (boolOf r30).bind fun b31 => cond b31 (onOut (call0 150 [x14] h9) (fun a32 h33 => (boolOf a32).bind fun b34 => cond b34 (some (.inl (x3, x10, h33))) (some (.inr (.lit (.int .i64 0), h33)))) (fun _ _ _ => none) (fun _ _ => none)) (some (.inr (.lit (.int .i64 0), h9)))) (some (.inr (.lit (.int .i64 0), h9))))) ((binAV E0 .gtr 3 x13 (.lit (.int .i64 0))).bind fun r35 => (boolOf r35).bind fun b36 => cond b36 ((binAV E0 .eql 3 x3 (.lit (.int .i64 2))).bind fun r37 => (boolOf r37).bind fun b38 => cond b38 (onOut (call0 150 [x14] h9) (fun a39 h40 => (boolOf a39).bind fun b41 => cond b41 (some (.inl (x3, x10, h40))) (some (.inr (.lit (.int .i64 0), h40)))) (fun _ _ _ => none) (fun _ _ => none)) (some (.inr (.lit (.int .i64 0), h9)))) (some (.inr (.lit (.int .i64 0), h9)))))) (fun _ _ _ => none) (fun _ _ => none)) ((binAV E0 .gtr 3 x13 (.lit (.int .i64 0))).bind fun r42 => (boolOf r42).bind fun b43 => cond b43 ((binAV E0 .neq 3 x3 (.lit (.int .i64 0))).bind fun r44 => (boolOf r44).bind fun b45 => cond b45 (onOut (call0 149 [x14] h4) (fun a46 h47 => (boolOf a46).bind fun b48 => cond b48 (some (.inl (x3, x10, h47))) (onOut (call0 151 [x14] h47) (fun a49 h50 => (boolOf a49).bind fun b51 => cond b51 (some (.inl (x3, x10, h50))) ((binAV E0 .gtr 3 x13 (.lit (.int .i64 0))).bind fun r52 => (boolOf r52).bind fun b53 => cond b53 ((binAV E0 .eql 3 x3 (.lit (.int .i64 2))).bind fun r54 => (boolOf r54).bind fun b55 => cond b55 (onOut (call0 150 [x14] h50) (fun a56 h57 => (boolOf a56).bind fun b58 => cond b58 (some (.inl (x3, x10, h57))) (some (.inr (.lit (.int .i64 0), h57)))) (fun _ _ _ => none) (fun _ _ => none)) (some (.inr (.lit (.int .i64 0), h50)))) (some (.inr (.lit (.int .i64 0), h50))))) (fun _ _ _ => none) (fun _ _ => none))) (fun _ _ _ => none) (fun _ _ => none)) ((binAV E0 .gtr 3 x13 (.lit (.int .i64 0))).bind fun r59 => (boolOf r59).bind fun b60 => cond b60 ((binAV E0 .eql 3 x3 (.lit (.int .i64 2))).bind fun r61 => (boolOf r61).bind fun b62 => cond b62 (onOut (call0 150 [x14] h4) (fun a63 h64 => (boolOf a63).bind fun b65 => cond b65 (some (.inl (x3, x10, h64))) (some (.inr (.lit (.int .i64 0), h64)))) (fun _ _ _ => none) (fun _ _ => none)) (some (.inr (.lit (.int .i64 0), h4)))) (some (.inr (.lit (.int .i64 0), h4))))) ((binAV E0 .gtr 3 x13 (.lit (.int .i64 0))).bind fun r66 => (boolOf r66).bind fun b67 => cond b67 ((binAV E0 .eql 3 x3 (.lit (.int .i64 2))).bind fun r68 => (boolOf r68).bind fun b69 => cond b69 (onOut (call0 150 [x14] h4) (fun a70 h71 => (boolOf a70).bind fun b72 => cond b72 (some (.inl (x3, x10, h71))) (some (.inr (.lit (.int .i64 0), h71)))) (fun _ _ _ => none) (fun _ _ => none)) (some (.inr (.lit (.int .i64 0), h4)))) (some (.inr (.lit (.int .i64 0), h4))))))) (fun _ _ _ => none) (fun _ _ => none)) ((binAV E0 .eql 3 x13 (.lit (.int .i64 0))).bind fun r73 => (boolOf r73).bind fun b74 => cond b74 (onOut (call0 150 [x14] h) (fun a75 h76 => (boolOf a75).bind fun b77 => cond b77 (some (.inl (.lit (.int .i64 2), x10, h76))) ((binAV E0 .gtr 3 x13 (.lit (.int .i64 0))).bind fun r78 => (boolOf r78).bind fun b79 => cond b79 ((binAV E0 .neq 3 x3 (.lit (.int .i64 0))).bind fun r80 => (boolOf r80).bind fun b81 => cond b81 (onOut (call0 149 [x14] h76) (fun a82 h83 => (boolOf a82).bind fun b84 => cond b84 (some (.inl (x3, x10, h83))) (onOut (call0 151 [x14] h83) (fun a85 h86 => (boolOf a85).bind fun b87 => cond b87 (some (.inl (x3, x10, h86))) ((binAV E0 .gtr 3 x13 (.lit (.int .i64 0))).bind fun r88 => (boolOf r88).bind fun b89 => cond b89 ((binAV E0 .eql 3 x3 (.lit (.int .i64 2))).bind fun r90 => (boolOf r90).bind fun b91 => cond b91 (onOut (call0 150 [x14] h86) (fun a92 h93 => (boolOf a92).bind fun b94 => cond b94 (some (.inl (x3, x10, h93))) (some (.inr (.lit (.int .i64 0), h93)))) (fun _ _ _ => none) (fun _ _ => none)) (some (.inr (.lit (.int .i64 0), h86)))) (some (.inr (.lit (.int .i64 0), h86))))) (fun _ _ _ => none) (fun _ _ => none))) (fun _ _ _ => none) (fun _ _ => none)) ((binAV E0 .gtr 3 x13 (.lit (.int .i64 0))).bind fun r95 => (boolOf r95).bind fun b96 => cond b96 ((binAV E0 .eql 3 x3 (.lit (.int .i64 2))).bind fun r97 => (boolOf r97).bind fun b98 => cond b98 (onOut (call0 150 [x14] h76) (fun a99 h100 => (boolOf a99).bind fun b101 => cond b101 (some (.inl (x3, x10, h100))) (some (.inr (.lit (.int .i64 0), h100)))) (fun _ _ _ => none) (fun _ _ => none)) (some (.inr (.lit (.int .i64 0), h76)))) (some (.inr (.lit (.int .i64 0), h76))))) ((binAV E0 .gtr 3 x13 (.lit (.int .i64 0))).bind fun r102 => (boolOf r102).bind fun b103 => cond b103 ((binAV E0 .eql 3 x3 (.lit (.int .i64 2))).bind fun r104 => (boolOf r104).bind fun b105 => cond b105 (onOut (call0 150 [x14] h76) (fun a106 h107 => (boolOf a106).bind fun b108 => cond b108 (some (.inl (x3, x10, h107))) (some (.inr (.lit (.int .i64 0), h107)))) (fun _ _ _ => none) (fun _ _ => none)) (some (.inr (.lit (.int .i64 0), h76)))) (some (.inr (.lit (.int .i64 0), h76)))))) (fun _ _ _ => none) (fun _ _ => none)) ((binAV E0 .gtr 3 x13 (.lit (.int .i64 0))).bind fun r109 => (boolOf r109).bind fun b110 => cond b110 ((binAV E0 .neq 3 x3 (.lit (.int .i64 0))).bind fun r111 => (boolOf r111).bind fun b112 => cond b112 (onOut (call0 149 [x14] h) (fun a113 h114 => (boolOf a113).bind fun b115 => cond b115 (some (.inl (x3, x10, h114))) (onOut (call0 151 [x14] h114) (fun a116 h117 => (boolOf a116).bind fun b118 => cond b118 (some (.inl (x3, x10, h117))) ((binAV E0 .gtr 3 x13 (.lit (.int .i64 0))).bind fun r119 => (boolOf r119).bind fun b120 => cond b120 ((binAV E0 .eql 3 x3 (.lit (.int .i64 2))).bind fun r121 => (boolOf r121).bind fun b122 => cond b122 (onOut (call0 150 [x14] h117) (fun a123 h124 => (boolOf a123).bind fun b125 => cond b125 (some (.inl (x3, x10, h124))) (some (.inr (.lit (.int .i64 0), h124)))) (fun _ _ _ => none) (fun _ _ => none)) (some (.inr (.lit (.int .i64 0), h117)))) (some (.inr (.lit (.int .i64 0), h117))))) (fun _ _ _ => none) (fun _ _ => none))) (fun _ _ _ => none) (fun _ _ => none)) ((binAV E0 .gtr 3 x13 (.lit (.int .i64 0))).bind fun r126 => (boolOf r126).bind fun b127 => cond b127 ((binAV E0 .eql 3 x3 (.lit (.int .i64 2))).bind fun r128 => (boolOf r128).bind fun b129 => cond b129 (onOut (call0 150 [x14] h) (fun a130 h131 => (boolOf a130).bind fun b132 => cond b132 (some (.inl (x3, x10, h131))) (some (.inr (.lit (.int .i64 0), h131)))) (fun _ _ _ => none) (fun _ _ => none)) (some (.inr (.lit (.int .i64 0), h)))) (some (.inr (.lit (.int .i64 0), h))))) ((binAV E0 .gtr 3 x13 (.lit (.int .i64 0))).bind fun r133 => (boolOf r133).bind fun b134 => cond b134 ((binAV E0 .eql 3 x3 (.lit (.int .i64 2))).bind fun r135 => (boolOf r135).bind fun b136 => cond b136 (onOut (call0 150 [x14] h) (fun a137 h138 => (boolOf a137).bind fun b139 => cond b139 (some (.inl (x3, x10, h138))) (some (.inr (.lit (.int .i64 0), h138)))) (fun _ _ _ => none) (fun _ _ => none)) (some (.inr (.lit (.int .i64 0), h)))) (some (.inr (.lit (.int .i64 0), h)))))) := by kernel_rfl

/-- One round, of plain values: the next kind; none: no name. -/
def stepP (z : Bool) (k c : Int) : Option Int :=
  bif z && lowB c then some 1 else bif z && upB c then some 2 else bif !z && (k != 0 && (lowB c || digB c)) then some k else bif !z && (k == 2 && upB c) then some k else none
def outP (q : Nat) (h : Heap) (r : Option Int) : (AV × AV × Heap) ⊕ (AV × Heap) := match r with
  | some k => .inl (.lit (.int .i64 k), .lit (.pointer (some ⟨q, 0, none⟩)), h)
  | none => .inr (.lit (.int .i64 0), h)

theorem body_ok (h : Heap) (k c : Int) (i q : Nat) (b : Bool) : evC E0 {} Try.f132.ntmps call0 0 b1 0 (S [(3, iv k), (10, pv q), (11, .c (.v (.tup [.lit (.bool true), .lit (.int .i64 (i : Int)), .lit (.int .i32 c)])))] h) kS kN = some (outP q h (stepP (i == 0) k c)) := by
  rw [b1nf]
  have e1 : (((i : Int) == 0)) = (i == 0) := by rw [Bool.eq_iff_iff]; simp
  have e2 : decide ((i : Int) > 0) = !(i == 0) := by rw [Bool.eq_iff_iff]; simp; omega
  simp only [bin_int, eqlI, neqI, gtrI, bind_some', boolB, low0, up0, dig0, onOut_ret, e1, e2]
  unfold stepP
  cases i == 0 <;> cases lowB c <;> cases upB c <;> cases digB c <;> cases k != 0 <;> cases k == 2 <;> rfl

section
variable (s : ByteArray) (h : Heap)
theorem e0 : ev0 [0] R0 (S [(0, sv s)] h) = some ([(0, sv s)], h) := by kernel_rfl
theorem e1 : ev0 [0, 8] R1 (S [(0, sv s)] h) = some ([(0, sv s), (8, bv (decide ((s.size : Int) > 8)))], h) := by kernel_rfl
theorem e2 (st : Nat → Slot) : ev0 [2] R2 { s := st, h := h } = some ([(2, iv 0)], h) := by kernel_rfl
theorem e3 (b : Bool) : ev0 [0, 3] R3 (S [(0, sv s), (8, bv b)] h) = some ([(0, sv s), (3, iv 0)], h) := by kernel_rfl
theorem e40 : stepK E0 {} Try.f132.ntmps call0 (opsOf R4) 0 (o4 0) (S [(0, sv s), (3, iv 0)] h) (kLs [3, 9]) kN = some ([(3, iv 0), (9, sv s)], h) := by kernel_rfl
theorem e51 (k : Int) (q : Nat) (x y : AV) : stepK E0 {} Try.f132.ntmps call0 (opsOf R5) 1 (o5 1) { s := upd (lkS [(3, iv k), (10, pv q)]) 11 (.c (.v (.tup [.lit (.bool true), x, y]))), h := h } (kLs [3, 10, 11, 12]) kN = some ([(3, iv k), (10, pv q), (11, .c (.v (.tup [.lit (.bool true), x, y]))), (12, bv true)], h) := by kernel_rfl
theorem e51f (k : Int) (q : Nat) : stepK E0 {} Try.f132.ntmps call0 (opsOf R5) 1 (o5 1) { s := upd (lkS [(3, iv k), (10, pv q)]) 11 (.c (.v (.tup [.lit (.bool false)]))), h := h } (kLs [3, 12]) kN = some ([(3, iv k), (12, bv false)], h) := by kernel_rfl
theorem e14 (k : Int) : ev0 [2] R14 (S [(3, iv k)] h) = some ([(2, iv k)], h) := by kernel_rfl
theorem fin2 (k : Int) : finish E0 {} Try.f132 h (S [(2, iv k)] h) = some (.ret (.lit (.int .i64 k)), h) := by kernel_rfl
end

/-- From a place on. -/
def goP (s : ByteArray) : Nat → Nat → Int → Int
  | 0, _, _ => 0
  | m + 1, pos, k => if h : pos < s.size then (match stepP (pos == 0) k (Utf8.decode s pos).1 with
      | some k' => goP s m (pos + (Utf8.decode s pos).2) k'
      | none => 0) else k
theorem decode_pos (s : ByteArray) (pos : Nat) : 1 ≤ (Utf8.decode s pos).2 := by
  simp only [Utf8.decode]
  repeat' split
  all_goals first | exact Nat.le_refl 1 | exact (by decide : 1 ≤ 2) | exact (by decide : 1 ≤ 3) | exact (by decide : 1 ≤ 4)

theorem decode_le (s : ByteArray) (pos : Nat) (h : pos < s.size) : pos + (Utf8.decode s pos).2 ≤ s.size := by
  simp only [Utf8.decode]
  repeat' split
  all_goals rename_i hc
  all_goals simp only [Bool.and_eq_true, decide_eq_true_eq] at *
  all_goals first | (show pos + 1 ≤ s.size; omega) | (show pos + 2 ≤ s.size; omega) | (show pos + 3 ≤ s.size; omega) | (show pos + 4 ≤ s.size; omega)

theorem slotA {d : Nat} {G : Gh} {w : World} {st : St} {a : Act} (r : RepSt d G w st a.tmps) {i : Nat} {x : AV} (h : st.s i = .c (.v x)) : RepA G.S w G.μ x (a.tmps.getD i undef) := by
  have := r.slot i
  rw [h] at this; exact this

theorem done_ok {d : Nat} {G0 : Gh} {w0 : World} {h : Heap} {a : Act} {w : World} {k : Int} (hat : AtSt d Try.f132.ntmps G0 w0 (S [(2, iv k)] h) a w) (hd : a.defers = []) : bodyPost Try.prog Try.f132 (EndOk d G0 w0 (.ret (.lit (.int .i64 k))) h) .ret a w := by
  obtain ⟨G, r, hnt, hf⟩ := hat
  obtain ⟨v, k1, ⟨G', k2, k3, k4, k5⟩, _⟩ := finish_ok (G0 := G) (w0 := w) okE0 r.heap r (Fr.refl _ _ _) (fin2 h k)
  exact ⟨hd, v, k1, G', hf.trans k2, k3, k4, k5⟩
theorem of_avs {d : Nat} {G : Gh} {w : World} {st : St} {tmps : Array Value} (r : RepSt d G w st tmps) (l : List (Nat × AV)) (hl : ∀ p ∈ l, (st.s p.1).av = some p.2) : RepSt d G w (S (l.map fun p => (p.1, .c (.v p.2))) st.h) tmps := by
  refine ⟨fun i => ?_, fun u t off hu => ?_, r.heap, r.within⟩
  · show RepSlot G w d i (lkS _ i) _
    rcases lkS_spec (l.map fun p => (p.1, Slot.c (.v p.2))) i with e | e
    · rw [e]; trivial
    · obtain ⟨p, hp, e2⟩ := List.mem_map.1 e
      have e3 := (Prod.mk.inj e2).1; have e4 := (Prod.mk.inj e2).2
      subst e3; rw [← e4]; exact (r.slot p.1).av (hl p hp)
  · have hu : lkS (l.map fun p => (p.1, Slot.c (.v p.2))) u = .path t off := hu
    rcases lkS_spec (l.map fun p => (p.1, Slot.c (.v p.2))) u with e | e
    · rw [e] at hu; cases hu
    · obtain ⟨p, hp, e2⟩ := List.mem_map.1 e
      have e4 := (Prod.mk.inj e2).2
      rw [hu] at e4; cases e4

theorem loop_ok {d q : Nat} {G0 : Gh} {w0 : World} {h : Heap} {s : ByteArray} (hq : w0.heap.size ≤ q) {r : Int} {Q : Exit → Act → World → Prop}
    (hex : ∀ a w, AtSt d Try.f132.ntmps G0 w0 (S [(3, iv r)] h) a w → a.defers = [] → Q (.exit 0) a w)
    (hret : r = 0 → ∀ a w, AtSt d Try.f132.ntmps G0 w0 (S [(2, iv 0)] h) a w → a.defers = [] → Q .ret a w) :
    ∀ (m pos : Nat) (k : Int) (a : Act) (G : Gh) (w : World), s.size < m + pos → pos ≤ s.size → goP s m pos k = r → RepSt d G w (S [(3, iv k), (10, pv q)] h) a.tmps → a.tmps.size = Try.f132.ntmps → Fr d G0 w0 G w → G.O q = .none → w.heap[q]? = some (.stringIter s pos) → a.defers = [] →
      Code.roundsIn (FF none) 0 Try.prog lp Q m a w
  | 0, pos, k, a, G, w, h1, hle, hr, rs, hn, hf, ho, hi, hd => by omega
  | m + 1, pos, k, a, G, w, h1, hle, hr, rs, hn, hf, ho, hi, hd => by
    rw [roundsIn_succ]
    refine wpIn_seq (wpIn_region ?_)
    change wpOpsIn _ _ _ (opsOf R5) _ [0, 1] _ _
    rw [wpOpsIn_cons]
    have v10 : a.tmps.getD 10 undef = .pointer (some ⟨q, 0, none⟩) := (slotA rs (i := 10) rfl).litE
    have hev : a.eval (.tmp 10) = .pointer (some ⟨q, 0, none⟩) := v10
    have hx : ∀ arr T fz, Obj.stringIter s pos ≠ .cells arr T fz := fun _ _ _ e => by cases e
    unfold goP at hr
    by_cases hp : pos < s.size
    · rw [dif_pos hp] at hr
      have hy : ∀ arr T fz, Obj.stringIter s (pos + (Utf8.decode s pos).2) ≠ .cells arr T fz := fun _ _ _ e => by cases e
      have rs1 := st_putN (y := .stringIter s (pos + (Utf8.decode s pos).2)) hi hx hy ho rs
      have f1 : Fr d G0 w0 G (w.putObj q (.stringIter s (pos + (Utf8.decode s pos).2))) := hf.putN hq hi hx hy
      refine step_value (o := o5 0) (nt := Try.f132.ntmps) (st := S _ h) (x := .tup [.lit (.bool true), .lit (.int .i64 (pos : Int)), .lit (.int .i32 ((Utf8.decode s pos).1 : Int))]) (v := .tuple #[.bool true, .int .i64 pos, .int .i32 (Utf8.decode s pos).1]) (w' := w.putObj q (.stringIter s (pos + (Utf8.decode s pos).2))) (G' := G) rfl rfl rfl (fun c hc => by cases hc) (by decide) rfl hn ?_ rs1 (.tup (.cons (.lit rfl) (.cons (.lit rfl) (.cons (.lit rfl) .nil)))) fun a1 r1 n1 d1 => ?_
      · have hnx := Lib.run_next_any_at (P := Try.prog) w q s pos (o5 0).type hi hp
        unfold execOp
        show Sem.run Try.prog (Instr.next (a.eval (.tmp 10)) true _ >>= _) w = _
        rw [hev, Sem.run_bind, hnx]
        rfl
      · rw [wpOpsIn_cons]
        refine step_keep okE0 call0_ok (H := {}) (G0 := G) (w0 := w.putObj q (.stringIter s (pos + (Utf8.decode s pos).2))) rfl [3, 10, 11, 12] (e51 h k q _ _) ⟨G, r1, n1, Fr.refl _ _ _⟩ (d1.trans hd) fun a2 w2 hat2 hd2 => ?_
        obtain ⟨G2, r2, n2, f2⟩ := hat2
        refine wpIn_seq (wpIn_cond_true (slotA r2 (i := 12) rfl).litE (wpIn_skip ?_))
        have rk := r2.keep (some [3, 10, 11])
        refine Code.wpIn_mono (fun e a3 w3 hq3 => ?_) (evC_ok (ro := none) (nn := 0) (D := []) (G0 := G2) (w0 := w2) okE0 call0_ok b1 0 _ kS a2 w2 (body_ok h k (Utf8.decode s pos).1 pos q true) ⟨G2, rk, n2, Fr.refl _ _ _⟩ hd2)
        obtain ⟨hd3, hq3⟩ := hq3
        have hq0 : q < (w.putObj q (.stringIter s (pos + (Utf8.decode s pos).2))).heap.size := by simpa using lt_of_heap hi
        have s2 := f2.same q hq0 (by rw [ho]; rfl)
        have hi2 : w2.heap[q]? = some (.stringIter s (pos + (Utf8.decode s pos).2)) := s2.1.trans (put_same (lt_of_heap hi))
        cases e with
        | normal =>
          obtain ⟨st', G3, k1, k2, k3, k4⟩ := hq3
          unfold kS at k1
          simp only at k1
          rw [Option.bind_eq_some_iff] at k1; obtain ⟨x3, hx3, k1⟩ := k1
          rw [Option.bind_eq_some_iff] at k1; obtain ⟨x10, hx10, k1⟩ := k1
          have k1 := Option.some.inj k1
          cases hs : stepP (pos == 0) k ((Utf8.decode s pos).1 : Int) with
          | none => rw [hs] at k1; cases k1
          | some k' =>
            rw [hs] at k1 hr
            simp only [outP, Sum.inl.injEq, Prod.mk.injEq] at k1
            obtain ⟨rfl, rfl, hh⟩ := k1
            have rk3 := of_avs k2 [(3, .lit (.int .i64 k')), (10, .lit (.pointer (some ⟨q, 0, none⟩)))] (fun p hp => by
              simp only [List.mem_cons, List.not_mem_nil, or_false] at hp
              rcases hp with e | e
              · rw [e]; exact hx3
              · rw [e]; exact hx10)
            rw [hh] at rk3
            have s3 := k4.same q (lt_of_heap hi2) (by rw [s2.2.2, ho]; rfl)
            have hw := decode_pos s pos
            exact loop_ok hq hex hret m _ k' a3 G3 w3 (by omega) (decode_le s pos hp) hr rk3 k3 ((f1.trans f2).trans k4) (s3.2.2.trans (s2.2.2.trans ho)) (s3.1.trans hi2) hd3
        | ret =>
          obtain ⟨st', G3, k1, k2, k3, k4⟩ := hq3
          unfold kS at k1
          simp only at k1
          rw [Option.bind_eq_some_iff] at k1; obtain ⟨x2, hx2, k1⟩ := k1
          have k1 := Option.some.inj k1
          cases hs : stepP (pos == 0) k ((Utf8.decode s pos).1 : Int) with
          | some k' => rw [hs] at k1; cases k1
          | none =>
            rw [hs] at k1 hr
            simp only [outP, Sum.inr.injEq, Prod.mk.injEq] at k1
            obtain ⟨rfl, hh⟩ := k1
            have rk3 := of_avs k2 [(2, .lit (.int .i64 0))] (fun p hp => by
              simp only [List.mem_cons, List.not_mem_nil, or_false] at hp
              rw [hp]; exact hx2)
            rw [hh] at rk3
            exact hret hr.symm a3 w3 ⟨G3, rk3, k3, (f1.trans f2).trans k4⟩ hd3
        | exit i => obtain ⟨st', G3, k1, _⟩ := hq3; cases k1
        | panic ch => obtain ⟨x, v, G3, h', _, k1, _⟩ := hq3; cases k1
        | goto l => exact hq3.elim
        | outgrown => exact hq3.elim
    · rw [dif_neg hp] at hr
      subst hr
      refine step_value (o := o5 0) (nt := Try.f132.ntmps) (st := S _ h) (x := .tup [.lit (.bool false)]) (v := .tuple #[.bool false]) (w' := w) (G' := G) rfl rfl rfl (fun c hc => by cases hc) (by decide) rfl hn ?_ rs (.tup (.cons (.lit rfl) .nil)) fun a1 r1 n1 d1 => ?_
      · have hnx := Lib.run_next_end_at (P := Try.prog) w q s pos (o5 0).type hi hp
        unfold execOp
        show Sem.run Try.prog (Instr.next (a.eval (.tmp 10)) true _ >>= _) w = _
        rw [hev, Sem.run_bind, hnx]
        rfl
      · rw [wpOpsIn_cons]
        refine step_keep okE0 call0_ok (H := {}) (G0 := G0) (w0 := w0) rfl [3, 12] (e51f h k q) ⟨G, r1, n1, hf⟩ (d1.trans hd) fun a2 w2 hat2 hd2 => ?_
        obtain ⟨G2, r2, n2, f2⟩ := hat2
        refine wpIn_seq (wpIn_cond_false (slotA r2 (i := 12) rfl).litE (wpIn_exit ?_))
        exact hex a2 w2 ⟨G2, r2.keep (some [3]), n2, f2⟩ hd2

/-- What a text is by its letters alone. -/
def shapeP (s : ByteArray) : Int := bif decide ((s.size : Int) > 8) then 0 else goP s 10 0 0

theorem shape_ends (s : ByteArray) (h : Heap) : Ends Try.prog 132 [.lit (.string s)] h (.ret (.lit (.int .i64 (shapeP s)))) h := by
  refine ⟨⟨Try.f132, Try.func132, by kernel_rfl, rfl⟩, fun d G w argv hr hh hw => ?_⟩
  refine calls_of_wp Try.func132 rfl ?_
  refine (wpIn_wide (n := 0)).1 ?_
  have hal : argv.size = 1 := by simpa using hr.length.symm
  have hat : AtSt d Try.f132.ntmps G w (S [(0, sv s)] h) { tmps := argv ++ Array.replicate (Try.f132.ntmps - argv.size) undef, defers := [] } w := by
    refine ⟨G, ⟨fun i => ?_, fun u t off hu => ?_, hh, hw⟩, by rw [Array.size_append, Array.size_replicate, hal]; rfl, Fr.refl d G w⟩
    · rcases lkS_spec [(0, sv s)] i with e | e
      · show RepSlot _ _ _ _ (lkS _ _) _
        rw [e]; trivial
      · refine argSlots_spec [.lit (.string s)] 0 argv.toList hr (fun j x hj => ?_) _ e
        have hj' : j < argv.size := by simpa using (List.getElem?_eq_some_iff.1 hj).1
        rw [Nat.zero_add, Array.getD_eq_getD_getElem?, Array.getElem?_append_left hj', ← Array.getElem?_toList, hj]; rfl
    · exfalso
      have hu : lkS [(0, sv s)] u = .path t off := hu
      rcases lkS_spec [(0, sv s)] u with e | e
      · rw [e] at hu; cases hu
      · rw [hu] at e; simp at e
  refine wpIn_seq (seg_keep okE0 call0_ok (H := {}) (n := 0) (bi := 0) [0] (e0 s h) hat rfl fun a1 w1 hat1 hd1 => ?_)
  refine wpIn_seq (wpIn_seq (seg_keep okE0 call0_ok (H := {}) (n := 0) (bi := 0) [0, 8] (e1 s h) hat1 hd1 fun a2 w2 hat2 hd2 => ?_))
  obtain ⟨G2, r2, n2, f2⟩ := hat2
  have hb := (slotA r2 (i := 8) rfl).litE
  unfold shapeP
  cases hd8 : decide ((s.size : Int) > 8) with
  | true =>
    rw [hd8] at hb
    refine wpIn_cond_true hb (wpIn_seq (seg_keep okE0 call0_ok (H := {}) (n := 0) (bi := 0) [2] (e2 h _) ⟨G2, r2, n2, f2⟩ hd2 fun a3 w3 hat3 hd3 => ?_))
    exact wpIn_ret (done_ok hat3 hd3)
  | false =>
    rw [hd8] at hb
    have h9 : ¬ ((s.size : Int) > 8) := of_decide_eq_false hd8
    have h8 : s.size ≤ 8 := by omega
    refine wpIn_cond_false hb (wpIn_skip ?_)
    refine wpIn_seq (seg_keep okE0 call0_ok (H := {}) (n := 0) (bi := 0) [0, 3] (e3 s h _) ⟨G2, r2, n2, f2⟩ hd2 fun a3 w3 hat3 hd3 => ?_)
    refine wpIn_seq (wpIn_seq (wpIn_region ?_))
    change wpOpsIn _ _ _ (opsOf R4) _ [0, 1] _ _
    rw [wpOpsIn_cons]
    refine step_keep okE0 call0_ok (H := {}) rfl [3, 9] (e40 s h) hat3 hd3 fun a4 w4 hat4 hd4 => ?_
    rw [wpOpsIn_cons]
    obtain ⟨G4, r4, n4, f4⟩ := hat4
    have v9 : a4.eval (.tmp 9) = .string s := (slotA r4 (i := 9) rfl).litE
    obtain ⟨ra, fa⟩ := st_alloc (.stringIter s 0) r4
    refine step_value (o := o4 1) (nt := Try.f132.ntmps) (st := S _ h) (x := .lit (.pointer (some ⟨w4.heap.size, 0, none⟩))) (v := .pointer (some ⟨w4.heap.size, 0, none⟩)) (w' := w4.alloc (.stringIter s 0)) (G' := setO G4 w4.heap.size .none) rfl rfl rfl (fun c hc => by cases hc) (by decide) rfl n4 ?_ ra (.lit rfl) fun a5 r5 n5 d5 => ?_
    · have hnx := run_range_string (P := Try.prog) w4 9 s Try.underlying9
      unfold execOp
      show Sem.run Try.prog (Instr.range 9 (a4.eval (.tmp 9)) >>= _) w4 = _
      rw [v9, Sem.run_bind, hnx]
      rfl
    · refine wpIn_block (wpIn_loop_rounds 10 ?_)
      have r6 := r5.keep (some [3, 10])
      refine loop_ok (r := goP s 10 0 0) (h := h) (s := s) (G0 := G) (w0 := w) (q := w4.heap.size) f4.size ?_ ?_ 10 0 0 a5 (setO G4 w4.heap.size .none) (w4.alloc (.stringIter s 0)) (by omega) (Nat.zero_le _) rfl r6 n5 (f4.trans fa) setO_self (heap_alloc_new _ _) (d5.trans hd4)
      · intro a6 w6 hat6 hd6
        show Code.wpIn (FF none) 0 Try.prog (pR t4) (bodyPost Try.prog Try.f132 (EndOk d G w (.ret (.lit (.int .i64 (goP s 10 0 0)))) h)) a6 w6
        refine wpIn_seq (seg_keep okE0 call0_ok (H := {}) (n := 0) (bi := 0) [2] (e14 h _) hat6 hd6 fun a7 w7 hat7 hd7 => ?_)
        exact wpIn_ret (done_ok hat7 hd7)
      · intro hr0 a6 w6 hat6 hd6
        rw [show cond false 0 (goP s 10 0 0) = goP s 10 0 0 from rfl, hr0]
        exact done_ok hat6 hd6
end P132

def p132 : (Nat → List AV → Heap → R) → List AV → Heap → R := fun _ args h => match args with
  | [.lit (.string s)] => some (.ret (.lit (.int .i64 (P132.shapeP s))), h)
  | _ => none
theorem p132_ok (call : Nat → List AV → Heap → R) (args : List AV) (h : Heap) (out : Out) (h' : Heap) (e : p132 call args h = some (out, h')) : Ends Try.prog 132 args h out h' := by
  unfold p132 at e
  split at e
  · have e := Option.some.inj e; cases e
    exact P132.shape_ends _ _
  · cases e
end Go.Sh.T
