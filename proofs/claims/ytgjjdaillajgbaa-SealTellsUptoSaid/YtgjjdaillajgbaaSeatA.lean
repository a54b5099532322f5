/- SeatA: part of the proof: a shadow of the machine that is proved sound, and what the functions of this seat compute. Conditions: none. -/
import Derived.Test.YtgjjdaillajgbaaShB
import Derived.IntWalk
import Derived.Test.YtgjjdaillajgbaaProg
/- Types as plain data: what the shadow's cells of a type are. -/
namespace Go.Sh.T
set_option linter.unusedVariables false
set_option linter.unusedSimpArgs false
open Go Go.Sh

structure Ty where
  k : Int
  n : Int
  name : ByteArray
  labels : List ByteArray
  args : List Ty

def strC (s : ByteArray) : List AV := [.lit (.string s)]

mutual
def Ty.cells : Ty → List AV
  | ⟨k, n, s, ls, xs⟩ => [.lit (.int .i64 k), .lit (.int .i64 n), .lit (.string s), .sl 1 (ls.map strC), .sl 5 (Ty.cellsL xs)]
def Ty.cellsL : List Ty → List (List AV)
  | [] => []
  | t :: r => t.cells :: Ty.cellsL r
end

theorem Ty.cellsL_map : ∀ l : List Ty, Ty.cellsL l = l.map Ty.cells
  | [] => rfl
  | t :: r => by rw [Ty.cellsL, Ty.cellsL_map r]; rfl

theorem Ty.cells_eq (t : Ty) : t.cells = [.lit (.int .i64 t.k), .lit (.int .i64 t.n), .lit (.string t.name), .sl 1 (t.labels.map strC), .sl 5 (t.args.map Ty.cells)] := by
  cases t; rw [Ty.cells, Ty.cellsL_map]

@[simp] theorem Ty.cells_len (t : Ty) : t.cells.length = 5 := by rw [Ty.cells_eq]; rfl
@[simp] theorem Ty.c0 (t : Ty) : t.cells.getD 0 .dead = .lit (.int .i64 t.k) := by rw [Ty.cells_eq]; rfl
@[simp] theorem Ty.c1 (t : Ty) : t.cells.getD 1 .dead = .lit (.int .i64 t.n) := by rw [Ty.cells_eq]; rfl
@[simp] theorem Ty.c2 (t : Ty) : t.cells.getD 2 .dead = .lit (.string t.name) := by rw [Ty.cells_eq]; rfl
@[simp] theorem Ty.c3 (t : Ty) : t.cells.getD 3 .dead = .sl 1 (t.labels.map strC) := by rw [Ty.cells_eq]; rfl
@[simp] theorem Ty.c4 (t : Ty) : t.cells.getD 4 .dead = .sl 5 (t.args.map Ty.cells) := by rw [Ty.cells_eq]; rfl
theorem Ty.fold (k n : Int) (s : ByteArray) (ls : List ByteArray) (xs : List Ty) : [AV.lit (.int .i64 k), .lit (.int .i64 n), .lit (.string s), .sl 1 (ls.map strC), .sl 5 (xs.map Ty.cells)] = (Ty.mk k n s ls xs).cells := by rw [Ty.cells_eq]

theorem partA_full {n : Nat} {cs : List AV} (h : cs.length = n) : partA true n 0 cs = some (.agg cs) := by
  unfold partA
  subst h
  rw [Nat.zero_add, show Nat.ble cs.length cs.length = true from by simp, cond_true, cond_true, List.drop_zero, List.take_length]
theorem bind_some' {α β : Type} (a : α) (f : α → Option β) : (some a).bind f = f a := (Eq.refl _).trans rfl
theorem onOut_ret {ρ : Type} (a : AV) (h : Heap) (k1 : AV → Heap → Option ρ) (k2 : Nat → List (List AV) → Heap → Option ρ) (k3 : AV → Heap → Option ρ) : onOut (some (.ret a, h)) k1 k2 k3 = k1 a h := (Eq.refl _).trans rfl
theorem bin_int {E : Env} (op : BinOp) (T : TypeId) (k : IntKind) (x y : Int) : binAV E op T (.lit (.int k x)) (.lit (.int k y)) = intBin op k x y := by simp [binAV]
theorem indexA_map {α : Type} (l : List α) (f : α → List AV) (m : Nat) (i : Nat) (h : i < l.length) : indexA m (.sl m (l.map f)) (.lit (.int .i64 (i : Int))) = some (f l[i]) := by
  simp [indexA, slOf, intOf, h]

mutual
def Ty.nodes : Ty → Int
  | ⟨_, _, _, _, xs⟩ => Ty.nodesL 1 xs
def Ty.nodesL : Int → List Ty → Int
  | acc, [] => acc
  | acc, t :: r => Ty.nodesL (IntKind.i64.wrap (acc + t.nodes)) r
end

inductive Ty.Ok : Ty → Prop
  | mk {t : Ty} (hk : (Lit.int .i64 t.k).wf = true) (hn : (Lit.int .i64 t.n).wf = true) (hs : t.name.size ≤ maxLen) (hl : t.labels.length ≤ maxLen) (hls : ∀ s ∈ t.labels, s.size ≤ maxLen) (ha : t.args.length ≤ maxLen) (has : ∀ a ∈ t.args, a.Ok) : t.Ok

theorem Ty.Ok.len {t : Ty} (h : t.Ok) : t.args.length ≤ 9223372036854775807 := by cases h with | mk _ _ _ _ _ ha _ => exact ha
theorem Ty.Ok.arg {t : Ty} (h : t.Ok) {a : Ty} (ha : a ∈ t.args) : a.Ok := by cases h with | mk _ _ _ _ _ _ has => exact has a ha

theorem inc {i : Nat} (h : i < 9223372036854775807) : intBin .add .i64 (i : Int) 1 = some (.lit (.int .i64 ((i + 1 : Nat) : Int))) := by
  simp only [intBin]
  rw [IntWalk.i64_in _ (by omega)]
  simp

theorem Ty.size_arg {t : Ty} {i : Nat} (hi : i < t.args.length) : SizeOf.sizeOf t.args[i] < SizeOf.sizeOf t := by
  have := List.sizeOf_lt_of_mem (List.getElem_mem hi)
  cases t with
  | mk k n s ls xs => simp only [Ty.mk.sizeOf_spec] at *; omega

theorem nodesL_step {acc : Int} {l : List Ty} {i : Nat} (hi : i < l.length) : Ty.nodesL acc (l.drop i) = Ty.nodesL (IntKind.i64.wrap (acc + (l[i]).nodes)) (l.drop (i + 1)) := by
  rw [List.drop_eq_getElem_cons hi, Ty.nodesL]


mutual
def Ty.has (k : Int) : Ty → Bool
  | ⟨k', _, _, _, xs⟩ => k' == k || Ty.hasL k xs
def Ty.hasL (k : Int) : List Ty → Bool
  | [] => false
  | t :: r => t.has k || Ty.hasL k r
end
theorem Ty.has_eq (k : Int) (t : Ty) : t.has k = (t.k == k || Ty.hasL k t.args) := by cases t; rw [Ty.has]

theorem Ty.refold (t : Ty) : [t.cells.getD 0 .dead, t.cells.getD 1 .dead, t.cells.getD 2 .dead, t.cells.getD 3 .dead, t.cells.getD 4 .dead] = t.cells := by
  rw [Ty.cells_eq]; rfl

mutual
def Ty.pre : Ty → List Ty
  | ⟨k, n, s, ls, xs⟩ => ⟨k, n, s, ls, xs⟩ :: Ty.preL xs
def Ty.preL : List Ty → List Ty
  | [] => []
  | t :: r => t.pre ++ Ty.preL r
end
theorem Ty.pre_eq (t : Ty) : t.pre = t :: Ty.preL t.args := by cases t; rw [Ty.pre]
theorem Ty.preL_nil : Ty.preL [] = [] := by rw [Ty.preL]
theorem Ty.preL_cons (t : Ty) (r : List Ty) : Ty.preL (t :: r) = t.pre ++ Ty.preL r := by rw [Ty.preL]
mutual
theorem Ty.has_pre (k : Int) : ∀ t : Ty, t.has k = t.pre.any (fun x => x.k == k)
  | ⟨k', n, s, ls, xs⟩ => by rw [Ty.has, Ty.pre, List.any_cons, Ty.hasL_pre k xs]
theorem Ty.hasL_pre (k : Int) : ∀ l : List Ty, Ty.hasL k l = (Ty.preL l).any (fun x => x.k == k)
  | [] => by rw [Ty.hasL, Ty.preL]; rfl
  | t :: r => by rw [Ty.hasL, Ty.preL, List.any_append, Ty.has_pre k t, Ty.hasL_pre k r]
end

mutual
def Ty.small : Ty → Bool
  | ⟨_, _, _, _, xs⟩ => Nat.ble xs.length 9223372036854775807 && Ty.smallL xs
def Ty.smallL : List Ty → Bool
  | [] => true
  | t :: r => t.small && Ty.smallL r
end
mutual
theorem Ty.ok_small : ∀ t : Ty, t.Ok → t.small = true
  | ⟨k, n, s, ls, xs⟩, h => by
    rw [Ty.small, Bool.and_eq_true]
    exact ⟨by rw [Nat.ble_eq]; exact h.len, Ty.ok_smallL xs fun a ha => h.arg ha⟩
theorem Ty.ok_smallL : ∀ l : List Ty, (∀ a ∈ l, a.Ok) → Ty.smallL l = true
  | [], _ => by rw [Ty.smallL]
  | t :: r, h => by
    rw [Ty.smallL, Bool.and_eq_true]
    exact ⟨Ty.ok_small t (h t List.mem_cons_self), Ty.ok_smallL r fun a ha => h a (List.mem_cons_of_mem _ ha)⟩
end

/- reading a type back -/
def decS : List AV → Option ByteArray
  | [.lit (.string s)] => some s
  | _ => none
def decSs : List (List AV) → Option (List ByteArray)
  | [] => some []
  | x :: r => (decS x).bind fun s => (decSs r).bind fun l => some (s :: l)
mutual
def decA : AV → Option (List Ty)
  | .sl 5 es => decE es
  | _ => none
def decC : List AV → Option Ty
  | [] => none
  | a :: r => match a, r with
    | .lit (.int .i64 k), [.lit (.int .i64 n), .lit (.string s), .sl 1 ls, b] => (decSs ls).bind fun l => (decA b).bind fun xs => some ⟨k, n, s, l, xs⟩
    | _, _ => none
def decE : List (List AV) → Option (List Ty)
  | [] => some []
  | c :: r => (decC c).bind fun t => (decE r).bind fun l => some (t :: l)
end
theorem decS_ok : ∀ {x : List AV} {s : ByteArray}, decS x = some s → x = strC s := by
  intro x s h
  unfold decS at h
  split at h
  · have h := Option.some.inj h; subst h; rfl
  · cases h
theorem decSs_ok : ∀ {l : List (List AV)} {m : List ByteArray}, decSs l = some m → l = m.map strC
  | [], m, h => by cases h; rfl
  | x :: r, m, h => by
    unfold decSs at h
    rw [Option.bind_eq_some_iff] at h; obtain ⟨s, hs, h⟩ := h
    rw [Option.bind_eq_some_iff] at h; obtain ⟨l, hl, h⟩ := h
    have h := Option.some.inj h; subst h
    rw [decS_ok hs, decSs_ok hl]; rfl
mutual
theorem decA_ok : ∀ {a : AV} {l : List Ty}, decA a = some l → a = .sl 5 (l.map Ty.cells)
  | .sl n es, l, h => by
    unfold decA at h
    split at h
    · rename_i h1 h2; cases h2; rw [decE_ok h]
    · cases h
  | .lit _, l, h => by unfold decA at h; cases h
  | .agg _, l, h => by unfold decA at h; cases h
  | .tup _, l, h => by unfold decA at h; cases h
  | .hp _ _, l, h => by unfold decA at h; cases h
  | .ro _, l, h => by unfold decA at h; cases h
  | .fn _ _ _, l, h => by unfold decA at h; cases h
  | .ifc _ _, l, h => by unfold decA at h; cases h
  | .dead, l, h => by unfold decA at h; cases h
theorem decC_ok : ∀ {c : List AV} {t : Ty}, decC c = some t → c = t.cells
  | [], t, h => by unfold decC at h; cases h
  | a :: r, t, h => by
    unfold decC at h
    split at h
    · rename_i k n s ls b
      rw [Option.bind_eq_some_iff] at h; obtain ⟨l, hl, h⟩ := h
      rw [Option.bind_eq_some_iff] at h; obtain ⟨xs, hx, h⟩ := h
      have h := Option.some.inj h; subst h
      rw [Ty.cells_eq, decSs_ok hl, decA_ok hx]
    · cases h
theorem decE_ok : ∀ {es : List (List AV)} {l : List Ty}, decE es = some l → es = l.map Ty.cells
  | [], l, h => by unfold decE at h; cases h; rfl
  | c :: r, l, h => by
    unfold decE at h
    rw [Option.bind_eq_some_iff] at h; obtain ⟨t, ht, h⟩ := h
    rw [Option.bind_eq_some_iff] at h; obtain ⟨m, hm, h⟩ := h
    have h := Option.some.inj h; subst h
    rw [decC_ok ht, decE_ok hm]; rfl
end
theorem decSs_map : ∀ l : List ByteArray, decSs (l.map strC) = some l
  | [] => rfl
  | s :: r => by
    rw [List.map_cons, decSs, decSs_map r]; rfl
mutual
theorem decC_cells : ∀ t : Ty, decC t.cells = some t
  | ⟨k, n, s, ls, xs⟩ => by
    rw [Ty.cells, decC, decSs_map, decA, decE_cells xs]; rfl
theorem decE_cells : ∀ l : List Ty, decE (Ty.cellsL l) = some l
  | [] => by rw [Ty.cellsL, decE]
  | t :: r => by
    rw [Ty.cellsL, decE, decC_cells t, decE_cells r]; rfl
end

/- not by computing: the kernel is to compare nothing -/
theorem condF {α : Type} (x y : α) : cond false x y = y := by
  have h : ∀ b, b = false → cond b x y = y := by intro b hb; subst hb; rfl
  exact h false rfl
theorem condT {α : Type} (x y : α) : cond true x y = x := by
  have h : ∀ b, b = true → cond b x y = x := by intro b hb; subst hb; rfl
  exact h true rfl

def add64 (x y : Int) : Int := IntKind.i64.wrap (x + y)
def sub64 (x y : Int) : Int := IntKind.i64.wrap (x - y)
theorem lssI (x y : Int) : intBin .lss .i64 x y = some (.lit (.bool (decide (x < y)))) := (Eq.refl _).trans rfl
theorem gtrI (x y : Int) : intBin .gtr .i64 x y = some (.lit (.bool (decide (x > y)))) := (Eq.refl _).trans rfl
theorem leqI (x y : Int) : intBin .leq .i64 x y = some (.lit (.bool (decide (x ≤ y)))) := (Eq.refl _).trans rfl
theorem geqI (x y : Int) : intBin .geq .i64 x y = some (.lit (.bool (decide (x ≥ y)))) := (Eq.refl _).trans rfl
theorem eqlI (x y : Int) : intBin .eql .i64 x y = some (.lit (.bool (x == y))) := (Eq.refl _).trans rfl
theorem neqI (x y : Int) : intBin .neq .i64 x y = some (.lit (.bool (x != y))) := (Eq.refl _).trans rfl
theorem addI (x y : Int) : intBin .add .i64 x y = some (.lit (.int .i64 (add64 x y))) := (Eq.refl _).trans rfl
theorem subI (x y : Int) : intBin .sub .i64 x y = some (.lit (.int .i64 (sub64 x y))) := (Eq.refl _).trans rfl
theorem incI {i : Nat} (h : i < 9223372036854775807) : add64 (i : Int) 1 = ((i + 1 : Nat) : Int) := by
  unfold add64
  rw [IntWalk.i64_in _ (by omega)]; rfl
theorem boolB (b : Bool) : boolOf (.lit (.bool b)) = some b := (Eq.refl _).trans rfl
theorem notB (b : Bool) : unAV .not (.lit (.bool b)) = some (.lit (.bool (!b))) := (Eq.refl _).trans rfl
theorem aggS (l : List AV) : aggOf (.agg l) = some l := (Eq.refl _).trans rfl
theorem tupS (l : List AV) : tupOf (.tup l) = some l := (Eq.refl _).trans rfl
theorem ltT {i n : Nat} (h : i < n) : decide ((i : Int) < (n : Int)) = true := by simpa using h
theorem ltF {i n : Nat} (h : ¬ i < n) : decide ((i : Int) < (n : Int)) = false := by simpa using h

/- the heap -/
theorem hpart_app (agg : Bool) (n off i : Nat) (h hs : Heap) : hpart agg n off (h.length + i) (h ++ hs) = hpart agg n off i hs := by
  unfold hpart
  rw [List.getElem?_append_right (by omega), Nat.add_sub_cancel_left]
theorem hpart_app0 (agg : Bool) (n off : Nat) (h hs : Heap) : hpart agg n off h.length (h ++ hs) = hpart agg n off 0 hs := hpart_app agg n off 0 h hs
theorem hstore_app (h hs : Heap) (i off : Nat) (l : List Cell) : hstore (h ++ hs) (h.length + i) off l = (hstore hs i off l).map (h ++ ·) := by
  unfold hstore
  rw [List.getElem?_append_right (by omega), Nat.add_sub_cancel_left]
  cases hs[i]? with
  | none => rfl
  | some cs =>
    simp only [Option.bind_some]
    cases splice cs off l with
    | none => rfl
    | some cs' => simp
theorem hstore_app0 (h hs : Heap) (off : Nat) (l : List Cell) : hstore (h ++ hs) h.length off l = (hstore hs 0 off l).map (h ++ ·) := hstore_app h hs 0 off l
theorem trunc_app {H : FHint} (hb : (H.hb.isEmpty || H.esc) = false) {h hs : Heap} {out : Out} (ho : out.lt h.length) : trunc H h out (h ++ hs) = some (out, h) := by
  unfold trunc
  rw [hb, cond_false, if_pos ⟨ho, by simp, .inl (by simp)⟩, List.take_left]
theorem trunc_self {H : FHint} {h : Heap} {out : Out} (ho : out.lt h.length) : trunc H h out h = some (out, h) := by
  unfold trunc
  cases (H.hb.isEmpty || H.esc) with
  | true => rfl
  | false => rw [cond_false, if_pos ⟨ho, Nat.le_refl _, .inl (by simp)⟩, List.take_length]
mutual
theorem Ty.cells_lt (m : Nat) : ∀ t : Ty, ∀ a ∈ t.cells, AV.lt m a
  | ⟨k, n, s, ls, xs⟩ => by
    intro a ha
    rw [Ty.cells] at ha
    simp only [List.mem_cons, List.not_mem_nil, or_false] at ha
    rcases ha with e | e | e | e | e
    · rw [e]; exact .lit _
    · rw [e]; exact .lit _
    · rw [e]; exact .lit _
    · rw [e]; refine .sl _ fun x hx b hb => ?_
      obtain ⟨s, _, rfl⟩ := List.mem_map.1 hx
      rcases List.mem_cons.1 hb with e | e
      · rw [e]; exact .lit _
      · cases e
    · rw [e]; exact .sl _ (Ty.cellsL_lt m xs)
theorem Ty.cellsL_lt (m : Nat) : ∀ l : List Ty, ∀ x ∈ Ty.cellsL l, ∀ a ∈ x, AV.lt m a
  | [] => by intro x hx; rw [Ty.cellsL] at hx; cases hx
  | t :: r => by
    intro x hx
    rw [Ty.cellsL] at hx
    rcases List.mem_cons.1 hx with e | e
    · rw [e]; exact Ty.cells_lt m t
    · exact Ty.cellsL_lt m r x e
end
end Go.Sh.T

namespace Go.Sh.T
open Go Go.Sh Go.Proofs
set_option maxRecDepth 1000000
set_option linter.unusedVariables false
noncomputable def ti1 : TI := { size := 1, bytes := 8, desc := .func #[] #[] false, zero := [.v (.lit .nilFunc)] }
theorem tok1 : TyOk Try.prog 1 ti1 := .of (by kernel_rfl) (by kernel_rfl)
noncomputable def ti3 : TI := { size := 1, bytes := 8, desc := .int .i64, zero := [.v (.lit (.int .i64 0))] }
theorem tok3 : TyOk Try.prog 3 ti3 := .of (by kernel_rfl) (by kernel_rfl)
noncomputable def ti4 : TI := { size := 1, bytes := 1, desc := .bool, zero := [.v (.lit (.bool false))] }
theorem tok4 : TyOk Try.prog 4 ti4 := .of (by kernel_rfl) (by kernel_rfl)
noncomputable def ti5 : TI := { size := 1, bytes := 1, desc := .int .u8, zero := [.v (.lit (.int .u8 0))] }
theorem tok5 : TyOk Try.prog 5 ti5 := .of (by kernel_rfl) (by kernel_rfl)
noncomputable def ti9 : TI := { size := 1, bytes := 16, desc := .string, zero := [.v (.lit (.string ByteArray.empty))] }
theorem tok9 : TyOk Try.prog 9 ti9 := .of (by kernel_rfl) (by kernel_rfl)
noncomputable def ti21 : TI := { size := 1, bytes := 4, desc := .int .i32, zero := [.v (.lit (.int .i32 0))] }
theorem tok21 : TyOk Try.prog 21 ti21 := .of (by kernel_rfl) (by kernel_rfl)
noncomputable def ti22 : TI := { size := 1, bytes := 24, desc := .slice 37, zero := [.nil 12] }
theorem tok22 : TyOk Try.prog 22 ti22 := .of (by kernel_rfl) (by kernel_rfl)
noncomputable def ti23 : TI := { size := 1, bytes := 24, desc := .slice 35, zero := [.nil 6] }
theorem tok23 : TyOk Try.prog 23 ti23 := .of (by kernel_rfl) (by kernel_rfl)
noncomputable def ti25 : TI := { size := 2, bytes := 24, desc := .struct #[⟨"Def", 9, 0, false, "", "", 0⟩, ⟨"Node", 3, 1, false, "", "", 16⟩], zero := [.v (.lit (.string ByteArray.empty)), .v (.lit (.int .i64 0))] }
theorem tok25 : TyOk Try.prog 25 ti25 := .of (by kernel_rfl) (by kernel_rfl)
noncomputable def ti29 : TI := { size := 1, bytes := 24, desc := .slice 33, zero := [.nil 5] }
theorem tok29 : TyOk Try.prog 29 ti29 := .of (by kernel_rfl) (by kernel_rfl)
noncomputable def ti31 : TI := { size := 1, bytes := 24, desc := .slice 9, zero := [.nil 1] }
theorem tok31 : TyOk Try.prog 31 ti31 := .of (by kernel_rfl) (by kernel_rfl)
noncomputable def ti33 : TI := { size := 5, bytes := 80, desc := .struct #[⟨"K", 3, 0, false, "", "", 0⟩, ⟨"N", 3, 1, false, "", "", 8⟩, ⟨"Name", 9, 2, false, "", "", 16⟩, ⟨"Labels", 31, 3, false, "", "", 32⟩, ⟨"Args", 29, 4, false, "", "", 56⟩], zero := [.v (.lit (.int .i64 0)), .v (.lit (.int .i64 0)), .v (.lit (.string ByteArray.empty)), .nil 1, .nil 5] }
theorem tok33 : TyOk Try.prog 33 ti33 := .of (by kernel_rfl) (by kernel_rfl)
noncomputable def ti35 : TI := { size := 6, bytes := 96, desc := .struct #[⟨"Name", 9, 0, false, "", "", 0⟩, ⟨"Type", 33, 1, false, "", "", 16⟩], zero := [.v (.lit (.string ByteArray.empty)), .v (.lit (.int .i64 0)), .v (.lit (.int .i64 0)), .v (.lit (.string ByteArray.empty)), .nil 1, .nil 5] }
theorem tok35 : TyOk Try.prog 35 ti35 := .of (by kernel_rfl) (by kernel_rfl)
noncomputable def ti37 : TI := { size := 12, bytes := 184, desc := .struct #[⟨"Rep", 33, 0, false, "", "", 0⟩, ⟨"Bound", 33, 5, false, "", "", 80⟩, ⟨"At", 25, 10, false, "", "", 160⟩], zero := [.v (.lit (.int .i64 0)), .v (.lit (.int .i64 0)), .v (.lit (.string ByteArray.empty)), .nil 1, .nil 5, .v (.lit (.int .i64 0)), .v (.lit (.int .i64 0)), .v (.lit (.string ByteArray.empty)), .nil 1, .nil 5, .v (.lit (.string ByteArray.empty)), .v (.lit (.int .i64 0))] }
theorem tok37 : TyOk Try.prog 37 ti37 := .of (by kernel_rfl) (by kernel_rfl)
noncomputable def ti46 : TI := { size := 1, bytes := 8, desc := .func #[33] #[4] false, zero := [.v (.lit .nilFunc)] }
theorem tok46 : TyOk Try.prog 46 ti46 := .of (by kernel_rfl) (by kernel_rfl)
noncomputable def ti95 : TI := { size := 1, bytes := 8, desc := .func #[33, 3] #[33] false, zero := [.v (.lit .nilFunc)] }
theorem tok95 : TyOk Try.prog 95 ti95 := .of (by kernel_rfl) (by kernel_rfl)
noncomputable def ti139 : TI := { size := 1, bytes := 8, desc := .func #[46] #[] false, zero := [.v (.lit .nilFunc)] }
theorem tok139 : TyOk Try.prog 139 ti139 := .of (by kernel_rfl) (by kernel_rfl)
noncomputable def ti140 : TI := { size := 1, bytes := 8, desc := .func #[46] #[] false, zero := [.v (.lit .nilFunc)] }
theorem tok140 : TyOk Try.prog 140 ti140 := .of (by kernel_rfl) (by kernel_rfl)
noncomputable def fs : List (Nat × Func) := [(3, Try.f3), (4, Try.f4), (5, Try.f5), (29, Try.f29), (30, Try.f30), (31, Try.f31), (33, Try.f33), (34, Try.f34), (35, Try.f35), (84, Try.f84), (86, Try.f86), (87, Try.f87), (139, Try.f139), (140, Try.f140), (157, Try.f157), (15, Try.f15), (16, Try.f16), (17, Try.f17), (18, Try.f18), (19, Try.f19), (20, Try.f20), (21, Try.f21), (22, Try.f22), (23, Try.f23), (24, Try.f24), (25, Try.f25), (26, Try.f26), (27, Try.f27), (28, Try.f28), (32, Try.f32), (69, Try.f69), (72, Try.f72), (73, Try.f73), (74, Try.f74), (75, Try.f75), (76, Try.f76), (78, Try.f78), (79, Try.f79), (80, Try.f80), (81, Try.f81), (82, Try.f82), (83, Try.f83), (85, Try.f85), (131, Try.f131), (132, Try.f132), (133, Try.f133), (134, Try.f134), (135, Try.f135), (136, Try.f136), (137, Try.f137), (138, Try.f138), (141, Try.f141), (160, Try.f160), (161, Try.f161), (162, Try.f162), (163, Try.f163), (164, Try.f164), (165, Try.f165), (166, Try.f166), (167, Try.f167), (180, Try.f180), (181, Try.f181), (182, Try.f182)]
noncomputable def gs : List (Nat × Func) := [(77, Try.f77), (130, Try.f130), (176, Try.f176), (177, Try.f177), (178, Try.f178)]
noncomputable def ts : List (Nat × TI) := [(1, ti1), (3, ti3), (4, ti4), (5, ti5), (9, ti9), (21, ti21), (22, ti22), (23, ti23), (25, ti25), (29, ti29), (31, ti31), (33, ti33), (35, ti35), (37, ti37), (46, ti46), (95, ti95), (139, ti139), (140, ti140)]
noncomputable def hints : List (Nat × FHint) := [(3, { tr := [58], keep := [(0, [0, 1, 2, 7, 9, 10, 11]), (2, [0, 2, 7, 9, 13, 14, 15])], base := [(140, 16), (151, 16), (164, 16)] }), (4, {}), (5, { tr := [59, 67], keep := [(0, [0, 1, 2, 4, 9, 11, 13, 14, 15])], base := [(42, 9)] }), (29, { tr := [27], keep := [(0, [0, 1, 2, 7, 10, 11])] }), (30, {}), (31, {}), (33, { base := [(15, 5)] }), (34, {}), (35, {}), (84, { tr := [84], keep := [(0, [0, 2, 5, 8, 11, 12, 13])], base := [(17, 5), (20, 5), (24, 5), (30, 5), (39, 5), (44, 5), (54, 12), (56, 5), (64, 5), (83, 12), (88, 12)] }), (86, { tr := [46], keep := [(0, [1, 2, 6, 8, 39, 40, 41])], base := [(22, 3), (25, 3), (37, 8), (38, 3), (45, 8), (53, 8)] }), (87, {}), (139, { keep := [(0, [0, 1, 7, 8])] }), (140, { tr := [33], keep := [(0, [1, 2, 3, 6, 8, 9])], base := [(10, 3), (14, 3), (24, 8), (26, 3), (32, 8), (34, 3), (44, 8)] }), (157, { keep := [(0, [0, 1, 5])] }), (15, { keep := [(0, [0, 3, 4])] }), (16, { keep := [(0, [0, 3, 4])] }), (17, { base := [(65, 5), (70, 5)] }), (18, { keep := [(0, [0, 3])], base := [(15, 4), (20, 4), (26, 4), (32, 4), (37, 4), (43, 4)] }), (19, { tr := [26], owns := [14], keep := [(0, [0, 1, 7, 10, 15, 16, 17])], base := [(31, 12)] }), (20, { keep := [(0, [0, 5, 6, 7])], base := [(12, 4), (18, 4)] }), (21, {}), (22, { keep := [(0, [0, 1, 5])] }), (23, { keep := [(0, [2, 3, 5])], base := [(6, 2), (8, 3), (12, 2), (14, 3), (19, 2), (21, 3), (26, 2), (28, 3), (34, 2), (37, 3), (43, 2), (49, 3), (56, 2), (61, 3)] }), (24, { keep := [(0, [1, 3, 4]), (2, [1, 3, 5])], base := [(6, 1), (11, 1), (16, 1), (27, 1), (36, 1), (47, 1)] }), (25, { keep := [(0, [1, 3])], base := [(5, 1), (11, 1), (18, 1), (22, 1), (27, 1), (31, 1), (37, 1), (41, 1), (47, 1), (51, 1), (55, 1), (59, 1), (62, 1), (66, 1), (71, 1), (74, 1), (78, 1), (83, 1), (88, 1), (91, 1), (95, 1), (99, 1), (104, 1), (107, 1)] }), (26, { hb := [2, 6, 7], hp := [2, 6, 7] }), (27, { keep := [(0, [1, 2, 5])], base := [(6, 2), (11, 2), (17, 2)] }), (28, {}), (32, { base := [(15, 5), (16, 5), (21, 5)] }), (69, {}), (72, {}), (73, {}), (74, {}), (75, {}), (76, { keep := [(0, [1, 2, 5])], base := [(6, 2), (10, 2), (16, 2), (22, 2)] }), (78, {}), (79, { keep := [(0, [0, 1, 5])] }), (80, {}), (81, { keep := [(0, [0, 3])] }), (82, { tr := [52], hp := [2, 3, 4], keep := [(0, [1, 3, 4, 7, 10, 43, 44, 45])], base := [(13, 5), (18, 5), (26, 5), (33, 8), (35, 5), (41, 10), (42, 5), (51, 10), (59, 10)] }), (83, { keep := [(0, [1, 3, 4])], base := [(6, 1), (13, 1)] }), (85, { base := [(7, 1), (11, 1), (19, 1), (25, 1), (30, 1), (36, 1), (41, 1), (46, 1), (52, 1), (58, 1), (61, 1), (66, 1)] }), (131, { hb := [3], hp := [3], base := [(5, 2), (8, 2), (12, 2)] }), (132, { keep := [(0, [0, 4, 5])] }), (133, {}), (134, { base := [(3, 1), (7, 1), (12, 1), (16, 1), (22, 1), (26, 1)] }), (135, {}), (136, {}), (137, {}), (138, { keep := [(0, [0, 5, 6, 7])] }), (141, {}), (160, { hb := [1], hp := [1], esc := true }), (161, { hp := [1] }), (162, { keep := [(0, [0, 3, 4]), (2, [0, 5, 6])] }), (163, {}), (164, {}), (165, {}), (166, { keep := [(0, [0, 1, 7, 8])] }), (167, {}), (180, {}), (181, {}), (182, {})]
noncomputable def E0 : Env := mkEnv Try.prog fs ts [] hints [25]
theorem allF : AllF Try.prog fs := ⟨Try.func3, Try.func4, Try.func5, Try.func29, Try.func30, Try.func31, Try.func33, Try.func34, Try.func35, Try.func84, Try.func86, Try.func87, Try.func139, Try.func140, Try.func157, Try.func15, Try.func16, Try.func17, Try.func18, Try.func19, Try.func20, Try.func21, Try.func22, Try.func23, Try.func24, Try.func25, Try.func26, Try.func27, Try.func28, Try.func32, Try.func69, Try.func72, Try.func73, Try.func74, Try.func75, Try.func76, Try.func78, Try.func79, Try.func80, Try.func81, Try.func82, Try.func83, Try.func85, Try.func131, Try.func132, Try.func133, Try.func134, Try.func135, Try.func136, Try.func137, Try.func138, Try.func141, Try.func160, Try.func161, Try.func162, Try.func163, Try.func164, Try.func165, Try.func166, Try.func167, Try.func180, Try.func181, Try.func182, trivial⟩
theorem allG : AllF Try.prog gs := ⟨Try.func77, Try.func130, Try.func176, Try.func177, Try.func178, trivial⟩
theorem allT : AllT Try.prog ts := ⟨tok1, tok3, tok4, tok5, tok9, tok21, tok22, tok23, tok25, tok29, tok31, tok33, tok35, tok37, tok46, tok95, tok139, tok140, trivial⟩
theorem okE0 : E0.Ok := mkEnv_ok (gs := []) allF trivial allT (by kernel_rfl) rfl rfl (by kernel_rfl) (by kernel_rfl)
end Go.Sh.T

namespace Go.Sh.T
set_option linter.unusedVariables false
set_option linter.unusedSimpArgs false
open Go Go.Sh Go.Proofs
set_option maxRecDepth 100000

def cs0 (es : List (List AV)) (h : Heap) : St := { s := lkS [(0, .c (.v (.sl 12 es)))], h := h }
def cs1 (es : List (List AV)) (h : Heap) : St := { s := fun t => (ups (cs0 es h).s [(2, .c (.nil 12))] t).noPath, h := h }
def cs2 (es : List (List AV)) (h : Heap) : St := { s := ups (cs1 es h).s [(3, .c (.v (.sl 12 es)))], h := h, pb := fun _ => false }
def cs3 (es : List (List AV)) (h : Heap) (b : Bool) : St := { s := upd (cs2 es h).s 4 (.c (.v (.lit (.bool b)))), h := h, pb := fun _ => false }

noncomputable def clK (h : Heap) : Ex → St → R := fun e st => match e with
  | .exit _ => none
  | _ => finish E0 { own := true } Try.f77 h st

theorem clT (h : Heap) : evC E0 { own := true } 8 noCall 0 (match Try.f77.body with | some (.seq _ (.seq (.seq _ c) _)) => c | _ => .skip) 0 (cs3 [] h true) (fun e st' => match e with
      | .normal => evC E0 { own := true } 8 noCall 0 (match Try.f77.body with | some (.seq _ (.seq _ c)) => c | _ => .skip) 0 st' (clK h) (fun _ _ => none)
      | .exit i => clK h (.exit i) st'
      | .ret => clK h .ret st') (fun _ _ => none) = some (.own 12 [], h) := by kernel_rfl

theorem clone77 (es : List (List AV)) (hm : es.length ≤ maxApp) (h : Heap) : Ends Try.prog 77 [.sl 12 es] h (.own 12 es) h := by
  refine ⟨⟨Try.f77, Try.func77, by kernel_rfl, rfl⟩, fun d G w argv hr hh hw => ?_⟩
  refine calls_of_wp Try.func77 rfl ?_
  refine (wpIn_wide (n := 0)).1 ?_
  have hal : argv.size = 1 := by have := hr.length; simpa using this.symm
  have hat : AtSt d 8 G w (cs0 es h) { tmps := argv ++ Array.replicate (Try.f77.ntmps - argv.size) undef, defers := [] } w := by
    refine ⟨G, ⟨fun i => ?_, fun u t off hu => ?_, hh, hw⟩, by simp [hal], Fr.refl d G w⟩
    · rcases lkS_spec [(0, .c (.v (.sl 12 es)))] i with e | e
      · show RepSlot _ _ _ _ (lkS _ _) _
        rw [e]; trivial
      · refine argSlots_spec [.sl 12 es] 0 argv.toList hr (fun j x hj => ?_) _ e
        have hj' : j < argv.size := by simpa using (List.getElem?_eq_some_iff.1 hj).1
        rw [Nat.zero_add, Array.getD_eq_getD_getElem?, Array.getElem?_append_left hj', ← Array.getElem?_toList, hj]; rfl
    · exfalso
      have hu : lkS [(0, .c (.v (.sl 12 es)))] u = .path t off := hu
      rcases lkS_spec [(0, .c (.v (.sl 12 es)))] u with e | e
      · rw [e] at hu; cases hu
      · rw [hu] at e; simp at e
  have k0 : evC E0 {} 8 noCall 0 (match Try.f77.body with | some (.seq a _) => a | _ => .skip) 0 (cs0 es h) kE kP = some (.inl (.normal, cs1 es h)) := by kernel_rfl
  refine wpIn_seq (seg_ok okE0 k0 hat rfl fun a1 w1 hat1 hd1 => ?_)
  have k1 : stepD E0 {} 8 noCall (match Try.f77.body with | some (.seq _ (.seq (.seq (.region _ ops _) _) _)) => ops | _ => #[]) 0 (match Try.f77.body with | some (.seq _ (.seq (.seq (.region _ ops _) _) _)) => ops.getD 0 default | _ => default) (cs1 es h) = some (.inl (cs2 es h)) := by kernel_rfl
  refine wpIn_seq (wpIn_seq (region_eqNil okE0 (o0 := (match Try.f77.body with | some (.seq _ (.seq (.seq (.region _ ops _) _) _)) => ops.getD 0 default | _ => default)) rfl rfl rfl (st1 := cs2 es h) k1 rfl rfl rfl Try.underlying22 (by decide) rfl (es := es) (n := 12) (by kernel_rfl) hat1 hd1 fun b hb a2 w2 hat2 hd2 => ?_))
  have fin : ∀ e a' w', QK [] d G w 8 (clK h) (fun _ _ => none) (.own 12 es, h) e a' w' → bodyPost Try.prog Try.f77 (EndOk d G w (.own 12 es) h) e a' w' := by
    intro e a' w' hq
    obtain ⟨hd', hq⟩ := hq
    have key : ∀ {st' : St} {G' : Gh}, finish E0 { own := true } Try.f77 h st' = some (.own 12 es, h) → RepSt d G' w' st' a'.tmps → Fr d G w G' w' → a'.defers = [] ∧ ∃ v, (results Try.f77 a'.tmps).run Try.prog w' = .ok v w' ∧ EndOk d G w (.own 12 es) h (.returned v) w' := by
      intro st' G' h1 h2 h3
      obtain ⟨v, k1, ⟨G2, k2, k3, k4, k5⟩, k6⟩ := finish_ok okE0 hh h2 h3 h1
      exact ⟨hd', v, k1, G2, k2, k3, k4, k5⟩
    cases e with
    | normal => obtain ⟨st', G', h1, h2, h3, h4⟩ := hq; exact key h1 h2 h4
    | ret => obtain ⟨st', G', h1, h2, h3, h4⟩ := hq; exact key h1 h2 h4
    | exit i => obtain ⟨st', G', h1, _⟩ := hq; cases h1
    | panic ch => obtain ⟨x, v, G', h', _, h1, _⟩ := hq; cases h1
    | goto l => exact hq.elim
    | outgrown => exact hq.elim
  have hk : evC E0 { own := true } 8 noCall 0 (match Try.f77.body with | some (.seq _ (.seq (.seq _ c) _)) => c | _ => .skip) 0 (cs3 es h b) (fun e st' => match e with
      | .normal => evC E0 { own := true } 8 noCall 0 (match Try.f77.body with | some (.seq _ (.seq _ c)) => c | _ => .skip) 0 st' (clK h) (fun _ _ => none)
      | .exit i => clK h (.exit i) st'
      | .ret => clK h .ret st') (fun _ _ => none) = some (.own 12 es, h) := by
    cases b with
    | true =>
      have he := hb rfl
      rw [he]
      exact clT h
    | false =>
      have e : evC E0 { own := true } 8 noCall 0 (match Try.f77.body with | some (.seq _ (.seq (.seq _ c) _)) => c | _ => .skip) 0 (cs3 es h false) (fun e st' => match e with
        | .normal => evC E0 { own := true } 8 noCall 0 (match Try.f77.body with | some (.seq _ (.seq _ c)) => c | _ => .skip) 0 st' (clK h) (fun _ _ => none)
        | .exit i => clK h (.exit i) st'
        | .ret => clK h .ret st') (fun _ _ => none) = cond (Nat.ble (([] : List (List AV)).length + es.length) maxApp) (some (.own 12 ([] ++ es), h)) none := by kernel_rfl
      rw [e]
      have : Nat.ble (([] : List (List AV)).length + es.length) maxApp = true := by rw [Nat.ble_eq]; simpa using hm
      rw [this, cond_true, List.nil_append]
  refine Code.wpIn_mono (fun e a' w' hq => ?_) (evC_ok (ro := none) (nn := 0) okE0 (noCall_ok _) _ 0 (cs3 es h b) _ a2 w2 hk hat2 hd2)
  obtain ⟨hd', hq⟩ := hq
  cases e with
  | normal =>
    obtain ⟨st', G', h1, h2, h3, h4⟩ := hq
    exact Code.wpIn_mono (fun e a'' w'' hq => fin e a'' w'' hq) (evC_ok (ro := none) (nn := 0) okE0 (noCall_ok _) _ 0 st' _ a' w' h1 ⟨G', h2, h3, h4⟩ hd')
  | ret => exact fin .ret a' w' ⟨hd', hq⟩
  | exit i => exact fin (.exit i) a' w' ⟨hd', hq⟩
  | panic ch => exact fin (.panic ch) a' w' ⟨hd', hq⟩
  | goto l => exact hq.elim
  | outgrown => exact hq.elim
end Go.Sh.T

/- The walk over a tree's nodes: what the iterator promises. -/
namespace Go.Sh.T
open Go Go.Sh Go.Proofs
set_option maxRecDepth 100000
set_option linter.unusedVariables false
set_option linter.unusedSimpArgs false

namespace W33
def yl (l : Nat) : AV := .lit (.func (.yield l) #[] #[])

mutual
inductive Tr : List AV → List AV → Prop
  | mk {q0 q1 q2 q3 : AV} {kids : List (List AV)} {xs : List AV} (h : TrL kids xs) (hl : kids.length ≤ 9223372036854775807) : Tr [q0, q1, q2, q3, .sl 5 kids] (.agg [q0, q1, q2, q3, .sl 5 kids] :: xs)
inductive TrL : List (List AV) → List AV → Prop
  | nil : TrL [] []
  | cons {e : List AV} {r : List (List AV)} {xs ys : List AV} (h : Tr e xs) (t : TrL r ys) : TrL (e :: r) (xs ++ ys)
end

theorem Tr.len {e xs : List AV} (h : Tr e xs) : e.length = 5 := by cases h; rfl

noncomputable def body : Code := Try.f177.body.getD .skip
def pL : Code → Code
  | .seq a _ => a
  | .block _ c => c
  | .loop c => c
  | .cond _ a _ => a
  | c => c
def pR : Code → Code
  | .seq _ b => b
  | .cond _ _ b => b
  | c => c
def opsOf : Code → Array Oper
  | .region _ ops _ => ops
  | _ => #[]
noncomputable def R0 := pL body
noncomputable def R1 := pL (pL (pR body))
noncomputable def R2 := pL (pL (pR (pL (pR body))))
noncomputable def tl := pR (pR body)
noncomputable def R3 := pL (pL tl)
noncomputable def lp := pL (pL (pR (pL tl)))
noncomputable def R4 := pL lp
noncomputable def b1 := pL (pL (pR (pR lp)))
noncomputable def R5 := pL b1
noncomputable def R6 := pL (pR b1)
noncomputable def R7 := pL (pL (pR (pR b1)))
noncomputable def R8 := pR (pR (pR lp))
noncomputable def R9 := pL (pR tl)
noncomputable def o1 (i : Nat) : Oper := (opsOf R1).getD i default
noncomputable def o6 (i : Nat) : Oper := (opsOf R6).getD i default

abbrev S (l : List (Nat × Slot)) (h : Heap) : St := { s := lkS l, h := h }
abbrev HB : FHint := { base := [(11, 2)] }
noncomputable abbrev ev0 (L : List Nat) (c : Code) (st : St) : Option (List (Nat × Slot) × Heap) := evC E0 HB Try.f177.ntmps noCall 0 c 0 st (kL L) kN
abbrev lc (l : List AV) : Slot := .loc (l.map .v)
abbrev iv (i : Int) : Slot := .c (.v (.lit (.int .i64 i)))
abbrev bv (b : Bool) : Slot := .c (.v (.lit (.bool b)))

section
variable (l : Nat) (q0 q1 q2 q3 : AV) (kids : List (List AV)) (h : Heap)
theorem e0 : ev0 [1, 2] R0 (S [(0, .c (.v (.agg [q0, q1, q2, q3, .sl 5 kids]))), (1, .c (.v (yl l)))] h) = some ([(1, .c (.v (yl l))), (2, lc [q0, q1, q2, q3, .sl 5 kids])], h) := by kernel_rfl
theorem e10 : stepK E0 {} Try.f177.ntmps noCall (opsOf R1) 0 (o1 0) (S [(1, .c (.v (yl l))), (2, lc [q0, q1, q2, q3, .sl 5 kids])] h) (kLs [1, 2, 7]) kN = some ([(1, .c (.v (yl l))), (2, lc [q0, q1, q2, q3, .sl 5 kids]), (7, .c (.v (yl l)))], h) := by kernel_rfl
theorem e11 : stepK E0 {} Try.f177.ntmps noCall (opsOf R1) 1 (o1 1) (S [(1, .c (.v (yl l))), (2, lc [q0, q1, q2, q3, .sl 5 kids]), (7, .c (.v (yl l)))] h) (kLs [1, 2, 7, 8]) kN = some ([(1, .c (.v (yl l))), (2, lc [q0, q1, q2, q3, .sl 5 kids]), (7, .c (.v (yl l))), (8, .c (.v (.agg [q0, q1, q2, q3, .sl 5 kids])))], h) := by kernel_rfl
theorem e13 (t : Bool) : stepK E0 {} Try.f177.ntmps noCall (opsOf R1) 3 (o1 3) { s := upd (lkS [(1, .c (.v (yl l))), (2, lc [q0, q1, q2, q3, .sl 5 kids]), (7, .c (.v (yl l))), (8, .c (.v (.agg [q0, q1, q2, q3, .sl 5 kids])))]) 9 (bv t), h := h } (kLs [1, 2, 10]) kN = some ([(1, .c (.v (yl l))), (2, lc [q0, q1, q2, q3, .sl 5 kids]), (10, bv (!t))], h) := by cases t <;> kernel_rfl
theorem e2 (st : Nat → Slot) : ev0 [4] R2 { s := st, h := h } = some ([(4, bv false)], h) := by kernel_rfl
theorem e3 (t : Bool) : ev0 [1, 12, 13, 14] R3 (S [(1, .c (.v (yl l))), (2, lc [q0, q1, q2, q3, .sl 5 kids]), (10, bv t)] h) = some ([(1, .c (.v (yl l))), (12, .c (.v (.sl 5 kids))), (13, iv kids.length), (14, iv 0)], h) := by kernel_rfl
theorem e4 (n i : Int) : ev0 [1, 12, 13, 14, 15] R4 (S [(1, .c (.v (yl l))), (12, .c (.v (.sl 5 kids))), (13, iv n), (14, iv i)] h) = some ([(1, .c (.v (yl l))), (12, .c (.v (.sl 5 kids))), (13, iv n), (14, iv i), (15, bv (decide (i < n)))], h) := by kernel_rfl
theorem e5 (n i : Int) (t : Bool) : ev0 [1, 12, 13, 14, 6] R5 (S [(1, .c (.v (yl l))), (12, .c (.v (.sl 5 kids))), (13, iv n), (14, iv i), (15, bv t)] h) = (indexA 5 (.sl 5 kids) (.lit (.int .i64 i))).bind fun e => (partA true 5 0 e).bind fun v => explodeK ti33 v fun cs => some ([(1, .c (.v (yl l))), (12, .c (.v (.sl 5 kids))), (13, iv n), (14, iv i), (6, .loc cs)], h) := by kernel_rfl
theorem e60 (n i : Int) (zs : List (List AV)) : stepK E0 {} Try.f177.ntmps noCall (opsOf R6) 0 (o6 0) (S [(1, .c (.v (yl l))), (12, .c (.v (.sl 5 zs))), (13, iv n), (14, iv i), (6, lc [q0, q1, q2, q3, .sl 5 kids])] h) (kLs [1, 12, 13, 14, 18]) kN = some ([(1, .c (.v (yl l))), (12, .c (.v (.sl 5 zs))), (13, iv n), (14, iv i), (18, .c (.v (.agg [q0, q1, q2, q3, .sl 5 kids])))], h) := by kernel_rfl
theorem e61 (n i : Int) (x : AV) : stepK E0 {} Try.f177.ntmps noCall (opsOf R6) 1 (o6 1) (S [(1, .c (.v (yl l))), (12, .c (.v (.sl 5 kids))), (13, iv n), (14, iv i), (18, .c (.v x))] h) (kLs [1, 12, 13, 14, 18, 19]) kN = some ([(1, .c (.v (yl l))), (12, .c (.v (.sl 5 kids))), (13, iv n), (14, iv i), (18, .c (.v x)), (19, .c (.v (yl l)))], h) := by kernel_rfl
theorem e63 (n i : Int) (x : AV) (t : Bool) : stepK E0 {} Try.f177.ntmps noCall (opsOf R6) 3 (o6 3) { s := upd (lkS [(1, .c (.v (yl l))), (12, .c (.v (.sl 5 kids))), (13, iv n), (14, iv i), (18, .c (.v x)), (19, .c (.v (yl l)))]) 20 (bv t), h := h } (kLs [1, 12, 13, 14, 21]) kN = some ([(1, .c (.v (yl l))), (12, .c (.v (.sl 5 kids))), (13, iv n), (14, iv i), (21, bv (!t))], h) := by cases t <;> kernel_rfl
theorem e7 (st : Nat → Slot) : ev0 [4] R7 { s := st, h := h } = some ([(4, bv false)], h) := by kernel_rfl
theorem e8 (n i : Int) (t : Bool) : ev0 [1, 12, 13, 14] R8 (S [(1, .c (.v (yl l))), (12, .c (.v (.sl 5 kids))), (13, iv n), (14, iv i), (21, bv t)] h) = some ([(1, .c (.v (yl l))), (12, .c (.v (.sl 5 kids))), (13, iv n), (14, iv (IntKind.i64.wrap (i + 1)))], h) := by kernel_rfl
theorem e9 (st : Nat → Slot) : ev0 [4] R9 { s := st, h := h } = some ([(4, bv true)], h) := by kernel_rfl
theorem fin4 (t : Bool) : finish E0 {} Try.f177 h (S [(4, bv t)] h) = some (.ret (.lit (.bool t)), h) := by kernel_rfl
end

/-- What a walk promises. -/
def WalkC (cs xs : List AV) : Prop := ∀ (d : Nat) (G : Gh) (w : World) (l : Nat) (rc : Loop) (rd : AV → Heap → Option (Option Code × Heap)) (xv : Value) (h : Heap) (j : Option Code) (h' : Heap), Ready G w l rc → RoundC Try.prog l d G w rc rd → RepA G.S w G.μ (.agg cs) xv → RepHeap G w h → Within G w →
  foldR rd xs h = some (j, h') → Calls Try.prog 177 #[xv, .func (.yield l) #[] #[]] w (PostY d G w l rc j h')

theorem callable : Callable Try.prog 177 := ⟨Try.f177, Try.func177, by kernel_rfl, rfl⟩

theorem slotA {d nt : Nat} {G0 G : Gh} {w0 w : World} {st : St} {a : Act} (r : RepSt d G w st a.tmps) {i : Nat} {x : AV} (h : st.s i = .c (.v x)) : RepA G.S w G.μ x (a.tmps.getD i undef) := by
  have := r.slot i
  rw [h] at this; exact this

theorem yl_val {S : Nat → Nat} {w : World} {μ : List Nat} {l : Nat} {v : Value} (h : RepA S w μ (yl l) v) : v = .func (.yield l) #[] #[] := h.litE

/-- The end: the result is told. -/
theorem done_ok {d l : Nat} {G0 : Gh} {w0 : World} {rc : Loop} {j : Option Code} {h' : Heap} {a : Act} {w : World} {t : Bool} (ht : t = j.isNone) (hat : AtSt d Try.f177.ntmps G0 (endW w0 l rc j) (S [(4, bv t)] h') a w) (hd : a.defers = []) : bodyPost Try.prog Try.f177 (PostY d G0 w0 l rc j h') .ret a w := by
  obtain ⟨G, r, hnt, hf⟩ := hat
  obtain ⟨v, k1, ⟨G', k2, k3, k4, k5⟩, _⟩ := finish_ok (G0 := G) (w0 := w) okE0 r.heap r (Fr.refl _ _ _) (fin4 h' t)
  have hv : v = .bool t := RepA.litE k5
  refine ⟨hd, v, k1, ?_, G', hf.trans k2, k3, k4⟩
  rw [hv, ht]

theorem loop_ok {n : Nat} (rec : ∀ cs xs, xs.length < n → Tr cs xs → WalkC cs xs) {d l : Nat} {G0 : Gh} {w0 : World} {rc : Loop} {rd : AV → Heap → Option (Option Code × Heap)} {kids : List (List AV)} {j : Option Code} {h' : Heap} (hk : kids.length ≤ 9223372036854775807)
    (rdy : Ready G0 w0 l rc) (rnd : RoundC Try.prog l d G0 w0 rc rd) {Q : Exit → Act → World → Prop}
    (hex : j = none → ∀ a w, AtSt d Try.f177.ntmps G0 (endW w0 l rc j) (S [(1, .c (.v (yl l)))] h') a w → a.defers = [] → Q (.exit 0) a w)
    (hret : j.isNone = false → ∀ a w, AtSt d Try.f177.ntmps G0 (endW w0 l rc j) (S [(4, bv false)] h') a w → a.defers = [] → Q .ret a w) :
    ∀ (m i : Nat) (ys : List AV) (h : Heap) (a : Act) (w : World), TrL (kids.drop i) ys → ys.length < n → i ≤ kids.length → kids.length < m + i → foldR rd ys h = some (j, h') → AtSt d Try.f177.ntmps G0 w0 (S [(1, .c (.v (yl l))), (12, .c (.v (.sl 5 kids))), (13, iv kids.length), (14, iv i)] h) a w → a.defers = [] →
      Code.roundsIn (FF none) 0 Try.prog lp Q m a w
  | 0, i, ys, h, a, w, _, _, h1, h2, _, _, _ => by omega
  | m + 1, i, ys, h, a, w, tr, hys, h1, h2, hf, hat, hd => by
    rw [roundsIn_succ]
    refine wpIn_seq (seg_keep okE0 (noCall_ok _) (H := HB) (n := 0) (bi := 0) [1, 12, 13, 14, 15] (e4 l kids h kids.length i) hat hd fun a1 w1 hat1 hd1 => ?_)
    obtain ⟨G1, r1, n1, f1⟩ := hat1
    have hb := (slotA (nt := 0) (G0 := G0) (w0 := w0) r1 (i := 15) rfl).litE
    by_cases hi : i < kids.length
    · rw [show decide ((i : Int) < (kids.length : Int)) = true from by simpa using hi] at hb
      refine wpIn_seq (wpIn_cond_true hb (wpIn_skip ?_))
      refine wpIn_seq (wpIn_block ?_)
      have hdr : kids.drop i = kids[i] :: kids.drop (i + 1) := List.drop_eq_getElem_cons hi
      rw [hdr] at tr
      obtain ⟨xs, ys', hxs, htl, rfl⟩ : ∃ xs ys', Tr kids[i] xs ∧ TrL (kids.drop (i + 1)) ys' ∧ ys = xs ++ ys' := by
        generalize kids[i] = e0 at tr; generalize kids.drop (i + 1) = r0 at tr
        cases tr with
        | cons h t => exact ⟨_, _, h, t, rfl⟩
      have hidx : indexA 5 (.sl 5 kids) (.lit (.int .i64 (i : Int))) = some kids[i] := by simp [indexA, slOf, intOf, hi]
      generalize hce : kids[i] = ce at hxs hidx
      have hxs0 := hxs
      obtain ⟨q0, q1, q2, q3, ks, hce2⟩ : ∃ q0 q1 q2 q3 ks, ce = [q0, q1, q2, q3, .sl 5 ks] := by cases hxs; exact ⟨_, _, _, _, _, rfl⟩
      subst hce2
      have k5 := e5 l kids h kids.length i (decide ((i : Int) < (kids.length : Int)))
      rw [hidx] at k5
      refine wpIn_seq (seg_keep okE0 (noCall_ok _) (H := HB) (n := 0) (bi := 0) [1, 12, 13, 14, 6] (h' := h) (l := [(1, .c (.v (yl l))), (12, .c (.v (.sl 5 kids))), (13, iv kids.length), (14, iv i), (6, lc [q0, q1, q2, q3, .sl 5 ks])]) k5 ⟨G1, r1, n1, f1⟩ hd1 fun a2 w2 hat2 hd2 => ?_)
      refine wpIn_seq (wpIn_region ?_)
      change wpOpsIn _ _ _ (opsOf R6) _ [0, 1, 2, 3] _ _
      rw [wpOpsIn_cons]
      refine step_keep okE0 (noCall_ok _) (H := {}) rfl [1, 12, 13, 14, 18] (e60 l q0 q1 q2 q3 ks h kids.length i kids) hat2 hd2 fun a3 w3 hat3 hd3 => ?_
      rw [wpOpsIn_cons]
      refine step_keep okE0 (noCall_ok _) (H := {}) rfl [1, 12, 13, 14, 18, 19] (e61 l kids h kids.length i (.agg [q0, q1, q2, q3, .sl 5 ks])) hat3 hd3 fun a4 w4 hat4 hd4 => ?_
      rw [wpOpsIn_cons]
      obtain ⟨G4, r4, n4, f4⟩ := hat4
      have rdy4 := rdy.later f4
      have v18 := slotA (nt := 0) (G0 := G0) (w0 := w0) r4 (i := 18) rfl
      have v19 := yl_val (slotA (nt := 0) (G0 := G0) (w0 := w0) r4 (i := 19) rfl)
      have hlen : xs.length < n := by rw [List.length_append] at hys; omega
      have step : ∀ (jj : Option Code) (hh : Heap), foldR rd xs h = some (jj, hh) → ∀ (K : Act → World → Prop) (Q : Exit → Act → World → Prop), (∀ a' G' w', RepSt d G' w' { s := upd (lkS [(1, .c (.v (yl l))), (12, .c (.v (.sl 5 kids))), (13, iv kids.length), (14, iv i), (18, .c (.v (.agg [q0, q1, q2, q3, .sl 5 ks]))), (19, .c (.v (yl l)))]) 20 (bv jj.isNone), h := hh } a'.tmps → a'.tmps.size = Try.f177.ntmps → a'.defers = a4.defers → Fr d G4 (endW w4 l rc jj) G' w' → K a' w') →
          wpOpIn (FF none) 0 Try.prog (opsOf R6) Q 2 K a4 w4 := by
        intro jj hh hfo K Q hK
        refine step_hand (o := o6 2) (nt := Try.f177.ntmps) (st := S _ h) rfl rfl rfl (fun c hc => by cases hc) (by decide) rfl r4 n4 rdy4 (.inl ⟨177, #[a4.tmps.getD 18 undef, .func (.yield l) #[] #[]], ?_, ?_⟩) hK
        · have := run_call (a := a4) (w := w4) Try.prog (o := o6 2) rfl rfl (f := 177) (fv := #[]) (cv := #[]) rfl callable
          rw [this]
          have e19 : a4.eval (.tmp 19) = .func (.yield l) #[] #[] := v19
          simp only [Array.map, Array.append_empty, Array.empty_append]
          congr 2
          show (#[.tmp 18, .tmp 19] : Array Operand).map a4.eval = _
          simp only [List.map_toArray, List.map_cons, List.map_nil, e19]
          rfl
        · exact rec _ xs hlen hxs0 (d + 1) G4 w4 l rc rd _ h jj hh rdy4 (rnd.later (Nat.le_succ d) f4 ) v18 r4.heap r4.within hfo
      rcases foldR_append hf with ⟨h3, k1, k2⟩ | ⟨c, k1, k2⟩
      · refine step none h3 k1 _ _ fun a5 G5 w5 r5 n5 d5 f5 => ?_
        rw [endW_none rdy4] at f5
        rw [wpOpsIn_cons]
        refine step_keep okE0 (noCall_ok _) (H := {}) rfl [1, 12, 13, 14, 21] (e63 l kids h3 kids.length i (.agg [q0, q1, q2, q3, .sl 5 ks]) true) ⟨G5, r5, n5, f4.trans f5⟩ (d5.trans hd4) fun a6 w6 hat6 hd6 => ?_
        obtain ⟨G6, r6, n6, f6⟩ := hat6
        refine wpIn_cond_false (slotA (nt := 0) (G0 := G0) (w0 := w0) r6 (i := 21) rfl).litE (wpIn_skip ?_)
        refine seg_keep okE0 (noCall_ok _) (H := HB) (n := 0) (bi := 0) [1, 12, 13, 14] (e8 l kids h3 kids.length i false) ⟨G6, r6, n6, f6⟩ hd6 fun a7 w7 hat7 hd7 => ?_
        rw [IntWalk.i64_in ((i : Int) + 1) (by omega)] at hat7
        exact loop_ok rec hk rdy rnd hex hret m (i + 1) ys' h3 a7 w7 htl (by rw [List.length_append] at hys; omega) hi (by omega) k2 hat7 hd7
      · have k2 : j = some c := k2
        subst k2
        refine step (some c) h' k1 _ _ fun a5 G5 w5 r5 n5 d5 f5 => ?_
        rw [wpOpsIn_cons]
        have f45 : Fr d G0 (endW w0 l rc (some c)) G5 w5 := (f4.put rdy.there rdy.own).trans f5
        refine step_keep okE0 (noCall_ok _) (H := {}) rfl [1, 12, 13, 14, 21] (e63 l kids h' kids.length i (.agg [q0, q1, q2, q3, .sl 5 ks]) false) ⟨G5, r5, n5, f45⟩ (d5.trans hd4) fun a6 w6 hat6 hd6 => ?_
        obtain ⟨G6, r6, n6, f6⟩ := hat6
        refine wpIn_cond_true (slotA (nt := 0) (G0 := G0) (w0 := w0) r6 (i := 21) rfl).litE ?_
        refine wpIn_seq (seg_keep okE0 (noCall_ok _) (H := HB) (n := 0) (bi := 0) [4] (e7 h' _) ⟨G6, r6, n6, f6⟩ hd6 fun a7 w7 hat7 hd7 => ?_)
        exact wpIn_ret (hret rfl a7 w7 hat7 hd7)
    · rw [show decide ((i : Int) < (kids.length : Int)) = false from by simpa using hi] at hb
      refine wpIn_seq (wpIn_cond_false hb (wpIn_exit ?_))
      have hdr : kids.drop i = [] := List.drop_eq_nil_of_le (by omega)
      rw [hdr] at tr
      cases tr
      have e := Prod.mk.inj (Option.some.inj hf)
      obtain ⟨ej, eh⟩ := e
      subst ej; subst eh
      refine hex rfl a1 w1 ?_ hd1
      rw [endW_none rdy]
      obtain ⟨_, rk, nk, fk⟩ := AtSt.keep (some [1]) ⟨G1, r1, n1, f1⟩
      exact ⟨_, rk, nk, fk⟩

theorem walk_ok : ∀ (n : Nat) (cs xs : List AV), xs.length < n → Tr cs xs → WalkC cs xs
  | 0, cs, xs, h, _ => by omega
  | n + 1, cs, xs, hlt, tr => by
    intro d G0 w0 l rc rd xv h j h' rdy rnd hx hh hw hf
    cases tr with
    | mk hk hl =>
    rename_i q0 q1 q2 q3 kids xs
    refine calls_of_wp Try.func177 rfl ?_
    refine (wpIn_wide (n := 0)).1 ?_
    have hat : AtSt d Try.f177.ntmps G0 w0 (S [(0, .c (.v (.agg [q0, q1, q2, q3, .sl 5 kids]))), (1, .c (.v (yl l)))] h) { tmps := #[xv, .func (.yield l) #[] #[]] ++ Array.replicate (Try.f177.ntmps - 2) undef, defers := [] } w0 := by
      refine ⟨G0, ⟨fun i => rep_two rfl rfl hx (.lit rfl) _ i, fun u t off hu => ?_, hh, hw⟩, by rw [Array.size_append, Array.size_replicate]; rfl, Fr.refl _ _ _⟩
      exfalso
      rcases u with _ | _ | u
      · cases hu
      · cases hu
      · cases hu
    refine wpIn_seq (seg_keep okE0 (noCall_ok _) (H := HB) (n := 0) (bi := 0) [1, 2] (e0 l q0 q1 q2 q3 kids h) hat rfl fun a1 w1 hat1 hd1 => ?_)
    refine wpIn_seq (wpIn_seq (wpIn_region ?_))
    change wpOpsIn _ _ _ (opsOf R1) _ [0, 1, 2, 3] _ _
    rw [wpOpsIn_cons]
    refine step_keep okE0 (noCall_ok _) (H := {}) rfl [1, 2, 7] (e10 l q0 q1 q2 q3 kids h) hat1 hd1 fun a3 w3 hat3 hd3 => ?_
    rw [wpOpsIn_cons]
    refine step_keep okE0 (noCall_ok _) (H := {}) rfl [1, 2, 7, 8] (e11 l q0 q1 q2 q3 kids h) hat3 hd3 fun a4 w4 hat4 hd4 => ?_
    rw [wpOpsIn_cons]
    obtain ⟨G4, r4, n4, f4⟩ := hat4
    have rdy4 := rdy.later f4
    have v8 := slotA (nt := 0) (G0 := G0) (w0 := w0) r4 (i := 8) rfl
    have v7 := yl_val (slotA (nt := 0) (G0 := G0) (w0 := w0) r4 (i := 7) rfl)
    have step : ∀ (jj : Option Code) (hh : Heap), rd (.agg [q0, q1, q2, q3, .sl 5 kids]) h = some (jj, hh) → ∀ (K : Act → World → Prop) (Q : Exit → Act → World → Prop), (∀ a' G' w', RepSt d G' w' { s := upd (lkS [(1, .c (.v (yl l))), (2, lc [q0, q1, q2, q3, .sl 5 kids]), (7, .c (.v (yl l))), (8, .c (.v (.agg [q0, q1, q2, q3, .sl 5 kids])))]) 9 (bv jj.isNone), h := hh } a'.tmps → a'.tmps.size = Try.f177.ntmps → a'.defers = a4.defers → Fr d G4 (endW w4 l rc jj) G' w' → K a' w') →
        wpOpIn (FF none) 0 Try.prog (opsOf R1) Q 2 K a4 w4 := by
      intro jj hh hfo K Q hK
      obtain ⟨fn, tmps, assign, body, y1, y2⟩ := rnd 0 (d + 1) G4 w4 (.agg [q0, q1, q2, q3, .sl 5 kids]) (a4.tmps.getD 8 undef) h jj hh (Nat.le_succ d) f4 v8 r4.heap r4.within hfo
      refine step_hand (o := o1 2) (nt := Try.f177.ntmps) (st := S _ h) rfl rfl rfl (fun c hc => by cases hc) (by decide) rfl r4 n4 rdy4 (.inr ⟨l, fn, tmps, assign, body, ?_, y2⟩) hK
      exact run_yieldOp (a := a4) (w := w4) Try.prog (o := o1 2) rfl rfl v7 (by
        show (Instr.yield l ((#[.tmp 8] : Array Operand).map a4.eval)).run Try.prog w4 = _
        simp only [List.map_toArray, List.map_cons, List.map_nil]
        exact y1)
    rcases foldR_cons hf with ⟨h3, k1, k2⟩ | ⟨c, k1, k2⟩
    · refine step none h3 k1 _ _ fun a5 G5 w5 r5 n5 d5 f5 => ?_
      rw [endW_none rdy4] at f5
      rw [wpOpsIn_cons]
      refine step_keep okE0 (noCall_ok _) (H := {}) rfl [1, 2, 10] (e13 l q0 q1 q2 q3 kids h3 true) ⟨G5, r5, n5, f4.trans f5⟩ (d5.trans hd4) fun a6 w6 hat6 hd6 => ?_
      obtain ⟨G6, r6, n6, f6⟩ := hat6
      refine wpIn_cond_false (slotA (nt := 0) (G0 := G0) (w0 := w0) r6 (i := 10) rfl).litE (wpIn_skip ?_)
      refine wpIn_seq (wpIn_seq (seg_keep okE0 (noCall_ok _) (H := HB) (n := 0) (bi := 0) [1, 12, 13, 14] (e3 l q0 q1 q2 q3 kids h3 false) ⟨G6, r6, n6, f6⟩ hd6 fun a7 w7 hat7 hd7 => ?_))
      refine wpIn_block (wpIn_loop_rounds (kids.length + 1) ?_)
      refine loop_ok (walk_ok n) hl rdy rnd ?_ ?_ (kids.length + 1) 0 xs h3 a7 w7 (by rw [List.drop_zero]; exact hk) (by simp only [List.length_cons] at hlt; omega) (Nat.zero_le _) (by omega) k2 hat7 hd7
      · intro hj a w hat hd
        show Code.wpIn (FF none) 0 Try.prog (pR tl) (bodyPost Try.prog Try.f177 (PostY d G0 w0 l rc j h')) a w
        refine wpIn_seq (seg_keep okE0 (noCall_ok _) (H := HB) (n := 0) (bi := 0) [4] (e9 h' _) hat hd fun a8 w8 hat8 hd8 => ?_)
        exact wpIn_ret (done_ok (by rw [hj]; rfl) hat8 hd8)
      · intro hj a w hat hd
        exact done_ok hj.symm hat hd
    · have k2 : j = some c := k2
      subst k2
      refine step (some c) h' k1 _ _ fun a5 G5 w5 r5 n5 d5 f5 => ?_
      rw [wpOpsIn_cons]
      have f45 : Fr d G0 (endW w0 l rc (some c)) G5 w5 := (f4.put rdy.there rdy.own).trans f5
      refine step_keep okE0 (noCall_ok _) (H := {}) rfl [1, 2, 10] (e13 l q0 q1 q2 q3 kids h' false) ⟨G5, r5, n5, f45⟩ (d5.trans hd4) fun a6 w6 hat6 hd6 => ?_
      obtain ⟨G6, r6, n6, f6⟩ := hat6
      refine wpIn_cond_true (slotA (nt := 0) (G0 := G0) (w0 := w0) r6 (i := 10) rfl).litE ?_
      refine wpIn_seq (seg_keep okE0 (noCall_ok _) (H := HB) (n := 0) (bi := 0) [4] (e2 h' _) ⟨G6, r6, n6, f6⟩ hd6 fun a7 w7 hat7 hd7 => ?_)
      exact wpIn_ret (done_ok rfl hat7 hd7)

/- the iterator: a closure that goes on to the walk -/
noncomputable def it : Code := Try.f176.body.getD .skip
noncomputable def oi (i : Nat) : Oper := (opsOf it).getD i default
abbrev HI : FHint := { hp := [1] }
theorem i0 (l i : Nat) (h : Heap) : stepK E0 HI Try.f176.ntmps noCall (opsOf it) 0 (oi 0) (S [(0, .c (.v (yl l))), (1, .c (.v (.hp i 0)))] h) (kLs [0, 3]) kN = (hpart true 5 0 i h).bind fun v => some ([(0, .c (.v (yl l))), (3, .c (.v v))], h) := by kernel_rfl
theorem i1 (l : Nat) (x : AV) (h : Heap) : stepK E0 HI Try.f176.ntmps noCall (opsOf it) 1 (oi 1) (S [(0, .c (.v (yl l))), (3, .c (.v x))] h) (kLs [3, 4]) kN = some ([(3, .c (.v x)), (4, .c (.v (yl l)))], h) := by kernel_rfl
theorem ifin (st : Nat → Slot) (h : Heap) : finish E0 {} Try.f176 h { s := st, h := h } = some (.ret (.tup []), h) := by kernel_rfl

theorem iter_ok {cs xs : List AV} {h : Heap} {i : Nat} (tr : Tr cs xs) (hi : (h[i]?).map (·.map Cell.get) = some cs) : IterC Try.prog 176 [.hp i 0] xs h := by
  refine ⟨⟨Try.f176, Try.func176, by kernel_rfl, rfl⟩, fun d G w l rc rd cv j h' rdy rnd hcv hh hw hf => ?_⟩
  obtain ⟨l0⟩ := cv
  have hcv : RepL G.S w G.μ [.hp i 0] l0 := hcv
  obtain ⟨x1, rfl⟩ : ∃ x, l0 = [x] := by cases hcv with | cons h t => cases t; exact ⟨_, rfl⟩
  have hx : RepA G.S w G.μ (.hp i 0) x1 := by cases hcv with | cons h _ => exact h
  refine calls_of_wp Try.func176 rfl ?_
  refine (wpIn_wide (n := 0)).1 ?_
  have hat : AtSt d Try.f176.ntmps G w (S [(0, .c (.v (yl l))), (1, .c (.v (.hp i 0)))] h) { tmps := #[.func (.yield l) #[] #[], x1] ++ Array.replicate (Try.f176.ntmps - 2) undef, defers := [] } w := by
    refine ⟨G, ⟨fun i => rep_two rfl rfl (.lit rfl) hx _ i, fun u t off hu => ?_, hh, hw⟩, by rw [Array.size_append, Array.size_replicate]; rfl, Fr.refl _ _ _⟩
    exfalso
    rcases u with _ | _ | u
    · cases hu
    · cases hu
    · cases hu
  refine wpIn_region ?_
  change wpOpsIn _ _ _ (opsOf it) _ [0, 1, 2] _ _
  rw [wpOpsIn_cons]
  have hp : hpart true 5 0 i h = some (.agg cs) := by
    obtain ⟨c0, h1, h2⟩ := Option.map_eq_some_iff.1 hi
    unfold hpart
    rw [h1, Option.bind_some, h2]
    exact partAll tr.len
  have k0 := i0 l i h
  rw [hp] at k0
  refine step_keep okE0 (noCall_ok _) (H := HI) rfl [0, 3] (l := [(0, .c (.v (yl l))), (3, .c (.v (.agg cs)))]) (h' := h) k0 hat rfl fun a3 w3 hat3 hd3 => ?_
  rw [wpOpsIn_cons]
  refine step_keep okE0 (noCall_ok _) (H := HI) rfl [3, 4] (i1 l (.agg cs) h) hat3 hd3 fun a4 w4 hat4 hd4 => ?_
  rw [wpOpsIn_cons]
  obtain ⟨G4, r4, n4, f4⟩ := hat4
  have rdy4 := rdy.later f4
  have v3 := slotA (nt := 0) (G0 := G) (w0 := w) r4 (i := 3) rfl
  have v4 := yl_val (slotA (nt := 0) (G0 := G) (w0 := w) r4 (i := 4) rfl)
  refine step_hand (o := oi 2) (nt := Try.f176.ntmps) (st := S _ h) rfl rfl rfl (fun c hc => by cases hc) (by decide) rfl r4 n4 rdy4 (j := j) (h' := h') (.inl ⟨177, #[a4.tmps.getD 3 undef, .func (.yield l) #[] #[]], ?_, ?_⟩) fun a5 G5 w5 r5 n5 d5 f5 => ?_
  · have := run_call (a := a4) (w := w4) Try.prog (o := oi 2) rfl rfl (f := 177) (fv := #[]) (cv := #[]) rfl callable
    rw [this]
    have e4 : a4.eval (.tmp 4) = .func (.yield l) #[] #[] := v4
    simp only [Array.map, Array.append_empty, Array.empty_append]
    congr 2
    show (#[.tmp 3, .tmp 4] : Array Operand).map a4.eval = _
    simp only [List.map_toArray, List.map_cons, List.map_nil, e4]
    rfl
  · exact walk_ok _ _ xs (Nat.lt_succ_self _) tr (d + 1) G4 w4 l rc rd _ h j h' rdy4 (rnd.later (Nat.le_succ d) f4) v3 r4.heap r4.within hf
  · obtain ⟨v, k1, ⟨G', k2, k3, k4, k5⟩, _⟩ := finish_ok (G0 := G5) (w0 := w5) okE0 r5.heap r5 (Fr.refl _ _ _) (ifin _ h')
    exact ⟨d5.trans hd4, v, k1, ⟨v, rfl⟩, G', ((f4.put rdy.there rdy.own).trans f5).trans k2, k3, k4⟩
end W33
end Go.Sh.T

/- ty.Has: a range over a function, by its shadow. -/
namespace Go.Sh.T
open Go Go.Sh Go.Proofs
set_option maxRecDepth 100000
set_option linter.unusedVariables false
set_option linter.unusedSimpArgs false

namespace H33
open W33 (Tr TrL pL pR)
theorem noPrims0 : PrimsOk E0 := fun f p h => by cases h
noncomputable def call0 : Nat → List AV → Heap → R := ev E0 1
theorem call0_ok : SoundC Try.prog call0 := ev_ok okE0 noPrims0 1

mutual
theorem tr : ∀ t : Ty, t.small = true → Tr t.cells (t.pre.map fun x => .agg x.cells)
  | ⟨k, n, s, ls, xs⟩, h => by
    rw [Ty.small, Bool.and_eq_true] at h
    rw [Ty.pre_eq, List.map_cons, Ty.cells_eq]
    exact .mk (by rw [← Ty.cellsL_map]; exact trL xs h.2) (by rw [List.length_map]; exact bleE h.1)
theorem trL : ∀ l : List Ty, Ty.smallL l = true → TrL (Ty.cellsL l) ((Ty.preL l).map fun x => .agg x.cells)
  | [], _ => by rw [Ty.preL, Ty.cellsL]; exact .nil
  | t :: r, h => by
    rw [Ty.smallL, Bool.and_eq_true] at h
    rw [Ty.preL_cons, Ty.cellsL, List.map_append]
    exact .cons (tr t h.1) (trL r h.2)
end

noncomputable def body : Code := Try.f130.body.getD .skip
noncomputable def A := pL body
noncomputable def B := pL (pL (pR body))
noncomputable def rng := pL (pR (pL (pR body)))
noncomputable def rest := pR (pR body)
def asg : Code → Code
  | .rangeFunc _ _ a _ => a
  | c => c
def bod : Code → Code
  | .rangeFunc _ _ _ b => b
  | c => c
abbrev HH : FHint := { hb := [3, 4], hp := [3, 4], base := [(9, 5)] }
abbrev fnC (i : Nat) : Slot := .c (.v (.fn 176 [] [.hp i 0]))
abbrev hpS (i : Nat) : Slot := .c (.v (.hp i 0))

section
variable (t : Ty) (k : Int) (h : Heap)
theorem kA (q0 q1 q2 q3 q4 : AV) : evC E0 HH Try.f130.ntmps call0 0 A 0 { s := lkS (argSlots 0 [.agg [q0, q1, q2, q3, q4], .lit (.int .i64 k)]), h := h } (kL [2, 3, 4]) kN = some ([(2, .loc [.v q0, .v q1, .v q2, .v q3, .v q4]), (3, hpS h.length), (4, hpS (h ++ ([[.v (.lit (.int .i64 k))]] : Heap)).length)], (h ++ ([[.v (.lit (.int .i64 k))]] : Heap)) ++ ([[.v (.lit (.bool false))]] : Heap)) := by kernel_rfl
theorem kB (q0 q1 q2 q3 q4 : AV) (i j : Nat) : evC E0 HH Try.f130.ntmps call0 0 B 0 { s := lkS [(2, .loc [.v q0, .v q1, .v q2, .v q3, .v q4]), (3, hpS i), (4, hpS j)], h := h } (kL [3, 4, 7]) kN = some ([(3, hpS i), (4, hpS j), (7, fnC h.length)], h ++ [[.v q0, .v q1, .v q2, .v q3, .v q4]]) := by kernel_rfl
theorem kR (q0 q1 q2 q3 q4 : AV) (i j : Nat) : roundE E0 HH Try.f130.ntmps call0 0 (lkS [(3, hpS i), (4, hpS j)]) 8 (asg rng) (bod rng) (.agg [q0, q1, q2, q3, q4]) h =
    (hpart false 1 0 i h).bind fun v => (binAV E0 .eql 3 q0 v).bind fun r => (boolOf r).bind fun b => cond b ((hstore h j 0 [.v (.lit (.bool true))]).bind fun h2 => some (some .ret, h2)) (some (none, h)) := by kernel_rfl
theorem kF (h0 : Heap) (i j : Nat) (f : Slot) : finish E0 HH Try.f130 h0 { s := lkS [(3, hpS i), (4, hpS j), (7, f)], h := h } = (hpart false 1 0 j h).bind fun a => trunc HH h0 (.ret a) h := by kernel_rfl
theorem kC (h0 : Heap) (i j : Nat) (f : Slot) : evC E0 HH Try.f130.ntmps call0 0 rest 0 { s := lkS [(3, hpS i), (4, hpS j), (7, f)], h := h } (fun e st' => match e with | .exit _ => none | _ => finish E0 HH Try.f130 h0 st') (fun _ _ => none) =
    (hstore h j 0 [.v (.lit (.bool false))]).bind fun h2 => (hpart false 1 0 j h2).bind fun a => trunc HH h0 (.ret a) h2 := by kernel_rfl
end

theorem fold (k : Int) (h : Heap) (z : List (List Cell)) : ∀ l : List Ty, foldR (roundE E0 HH Try.f130.ntmps call0 0 (lkS [(3, hpS h.length), (4, hpS (h.length + 1))]) 8 (asg rng) (bod rng)) (l.map fun x => .agg x.cells) (h ++ ([.v (.lit (.int .i64 k))] :: [.v (.lit (.bool false))] :: z)) =
    some (if l.any (fun x => x.k == k) then (some .ret, h ++ ([.v (.lit (.int .i64 k))] :: [.v (.lit (.bool true))] :: z)) else (none, h ++ ([.v (.lit (.int .i64 k))] :: [.v (.lit (.bool false))] :: z)))
  | [] => rfl
  | t :: l => by
    rw [List.map_cons, foldR, List.any_cons, Ty.cells_eq, kR, hpart_app0]
    have e1 : hpart false 1 0 0 ([.v (.lit (.int .i64 k))] :: [.v (.lit (.bool false))] :: z) = some (.lit (.int .i64 k)) := rfl
    have e2 : hstore ([.v (.lit (.int .i64 k))] :: [.v (.lit (.bool false))] :: z) 1 0 [.v (.lit (.bool true))] = some ([.v (.lit (.int .i64 k))] :: [.v (.lit (.bool true))] :: z) := rfl
    rw [e1, Option.bind_some, bin_int]
    simp only [intBin, Option.bind_some, boolOf]
    cases e : t.k == k with
    | true => rw [cond_true, hstore_app, e2]; rfl
    | false => simp only [cond_false, Option.bind_some, Bool.false_or]; exact fold k h z l

theorem has_ends (t : Ty) (ok : t.small = true) (k : Int) (h : Heap) : Ends Try.prog 130 [.agg t.cells, .lit (.int .i64 k)] h (.ret (.lit (.bool (t.has k)))) h := by
  have hlen : (h ++ [[Cell.v (.lit (.int .i64 k))]]).length = h.length + 1 := by simp
  have hA := kA k h (.lit (.int .i64 t.k)) (.lit (.int .i64 t.n)) (.lit (.string t.name)) (.sl 1 (t.labels.map strC)) (.sl 5 (t.args.map Ty.cells))
  rw [← Ty.cells_eq, hlen] at hA
  have hB := kB ((h ++ [[Cell.v (.lit (.int .i64 k))]]) ++ [[.v (.lit (.bool false))]]) (.lit (.int .i64 t.k)) (.lit (.int .i64 t.n)) (.lit (.string t.name)) (.sl 1 (t.labels.map strC)) (.sl 5 (t.args.map Ty.cells)) h.length (h.length + 1)
  obtain ⟨z, hz⟩ : ∃ z : List Cell, z = [.v (.lit (.int .i64 t.k)), .v (.lit (.int .i64 t.n)), .v (.lit (.string t.name)), .v (.sl 1 (t.labels.map strC)), .v (.sl 5 (t.args.map Ty.cells))] := ⟨_, rfl⟩
  have hzc : z.map Cell.get = t.cells := by rw [hz, Ty.cells_eq]; rfl
  rw [← hz] at hA hB
  have e1 : ((h ++ [[Cell.v (.lit (.int .i64 k))]]) ++ [[.v (.lit (.bool false))]]) ++ [z] = h ++ ([.v (.lit (.int .i64 k))] :: [.v (.lit (.bool false))] :: [z]) := by simp
  have hf := fold k h [z] t.pre
  refine range_fn (E := E0) (call := call0) okE0 call0_ok (fn := Try.f130) Try.func130 (by kernel_rfl) (by rfl : Try.f130.body = some (.seq A (.seq (.seq B (.block 0 (.rangeFunc (.tmp 7) #[8] (asg rng) (bod rng)))) rest))) (H := HH) (n := 0) (Nat.le_of_ble_eq_true rfl) [2, 3, 4] hA [3, 4, 7] hB (L := [(3, hpS h.length), (4, hpS (h.length + 1))]) rfl (by decide) (by rfl) (fun i => ?_) rfl
    (W33.iter_ok (tr t ok) ?_) (by rw [e1]; exact hf) ?_
  · rcases i with _ | _ | _ | _ | _ | i <;> first | exact .inr rfl | exact .inl rfl
  · rw [List.getElem?_append_right (Nat.le_refl _), Nat.sub_self]
    show some (z.map Cell.get) = _
    rw [hzc]
  · have p1 : hpart false 1 0 1 ([.v (.lit (.int .i64 k))] :: [.v (.lit (.bool true))] :: [z]) = some (.lit (.bool true)) := rfl
    have p2 : hpart false 1 0 1 ([.v (.lit (.int .i64 k))] :: [.v (.lit (.bool false))] :: [z]) = some (.lit (.bool false)) := rfl
    have p3 : hstore ([.v (.lit (.int .i64 k))] :: [.v (.lit (.bool false))] :: [z]) 1 0 [.v (.lit (.bool false))] = some ([.v (.lit (.int .i64 k))] :: [.v (.lit (.bool false))] :: [z]) := rfl
    rw [Ty.has_pre]
    cases e : t.pre.any (fun x => x.k == k) with
    | true =>
      rw [if_pos rfl]
      refine (kF _ h h.length (h.length + 1) _).trans ?_
      rw [hpart_app, p1, Option.bind_some, trunc_app (H := HH) rfl (show Out.lt _ (.ret (.lit _)) from AV.lt.lit _)]
    | false =>
      rw [if_neg (by simp)]
      refine (kC _ h h.length (h.length + 1) _).trans ?_
      rw [hstore_app, p3, Option.map_some, Option.bind_some, hpart_app, p2, Option.bind_some, trunc_app (H := HH) rfl (show Out.lt _ (.ret (.lit _)) from AV.lt.lit _)]
end H33

def p130 : (Nat → List AV → Heap → R) → List AV → Heap → R := fun _ args h => match args with
  | [.agg cs, .lit (.int .i64 k)] => (decC cs).bind fun t => bif t.small then some (.ret (.lit (.bool (t.has k))), h) else none
  | _ => none
theorem p130_ok (call : Nat → List AV → Heap → R) (args : List AV) (h : Heap) (out : Out) (h' : Heap) (e : p130 call args h = some (out, h')) : Ends Try.prog 130 args h out h' := by
  unfold p130 at e
  split at e
  · rw [Option.bind_eq_some_iff] at e; obtain ⟨t, ht, e⟩ := e
    obtain ⟨hs, e⟩ := condE e
    have e := Option.some.inj e; cases e
    rw [decC_ok ht]
    exact H33.has_ends t hs _ _
  · cases e
theorem p130_run (call : Nat → List AV → Heap → R) (t : Ty) (ok : t.Ok) (k : Int) (h : Heap) : p130 call [.agg t.cells, .lit (.int .i64 k)] h = some (.ret (.lit (.bool (t.has k))), h) := by
  show ((decC t.cells).bind fun t => bif t.small then some (Out.ret (.lit (.bool (t.has k))), h) else none) = _
  rw [decC_cells, Option.bind_some, Ty.ok_small t ok]; rfl
end Go.Sh.T

/- name.shape: a range over a string, by its shadow. -/
namespace Go.Sh.T
set_option maxRecDepth 100000
set_option linter.unusedVariables false
set_option linter.unusedSimpArgs false
open Go Go.Sh Go.Proofs

/- what is told of bytes -/
def lowB (c : Int) : Bool := bif decide (c ≥ 97) then decide (c ≤ 122) else false
def upB (c : Int) : Bool := bif decide (c ≥ 65) then decide (c ≤ 90) else false
def digB (c : Int) : Bool := bif decide (c ≥ 48) then decide (c ≤ 57) else false
def bytes (s : ByteArray) : List UInt8 := s.data.toList
theorem bytes_len (s : ByteArray) : (bytes s).length = s.size := by unfold bytes; exact Array.length_toList

namespace P178
theorem noPrims0 : PrimsOk E0 := fun f p h => by cases h
noncomputable def call0 : Nat → List AV → Heap → R := ev E0 3
theorem call0_ok : SoundC Try.prog call0 := ev_ok okE0 noPrims0 3
theorem low0 (c : Int) (h : Heap) : call0 180 [.lit (.int .i32 c)] h = some (.ret (.lit (.bool (lowB c))), h) := by
  have : call0 180 [.lit (.int .i32 c)] h = cond (decide (c ≥ 97)) (some (.ret (.lit (.bool (decide (c ≤ 122)))), h)) (some (.ret (.lit (.bool false)), h)) := by kernel_rfl
  rw [this]; unfold lowB; cases decide (c ≥ 97) <;> rfl
theorem up0 (c : Int) (h : Heap) : call0 181 [.lit (.int .i32 c)] h = some (.ret (.lit (.bool (upB c))), h) := by
  have : call0 181 [.lit (.int .i32 c)] h = cond (decide (c ≥ 65)) (some (.ret (.lit (.bool (decide (c ≤ 90)))), h)) (some (.ret (.lit (.bool false)), h)) := by kernel_rfl
  rw [this]; unfold upB; cases decide (c ≥ 65) <;> rfl
theorem dig0 (c : Int) (h : Heap) : call0 182 [.lit (.int .i32 c)] h = some (.ret (.lit (.bool (digB c))), h) := by
  have : call0 182 [.lit (.int .i32 c)] h = cond (decide (c ≥ 48)) (some (.ret (.lit (.bool (decide (c ≤ 57)))), h)) (some (.ret (.lit (.bool false)), h)) := by kernel_rfl
  rw [this]; unfold digB; cases decide (c ≥ 48) <;> rfl

def pL : Code → Code
  | .seq a _ => a
  | .block _ c => c
  | .loop c => c
  | .cond _ a _ => a
  | c => c
def pR : Code → Code
  | .seq _ b => b
  | .cond _ _ b => b
  | c => c
def opsOf : Code → Array Oper
  | .region _ ops _ => ops
  | _ => #[]
noncomputable def body : Code := Try.f178.body.getD .skip
noncomputable def R0 := pL body
noncomputable def R1 := pL (pL (pR body))
noncomputable def R2 := pL (pL (pR (pL (pR body))))
noncomputable def R3 := pL (pR (pR body))
noncomputable def t4 := pR (pR (pR body))
noncomputable def R4 := pL (pL t4)
noncomputable def lp := pL (pL (pR (pL t4)))
noncomputable def R5 := pL lp
noncomputable def b1 := pR (pR lp)
noncomputable def R14 := pL (pR t4)
noncomputable def o4 (i : Nat) : Oper := (opsOf R4).getD i default
noncomputable def o5 (i : Nat) : Oper := (opsOf R5).getD i default
abbrev S (l : List (Nat × Slot)) (h : Heap) : St := { s := lkS l, h := h }
noncomputable abbrev ev0 (L : List Nat) (c : Code) (st : St) : Option (List (Nat × Slot) × Heap) := evC E0 {} Try.f178.ntmps call0 0 c 0 st (kL L) kN
abbrev iv (i : Int) : Slot := .c (.v (.lit (.int .i64 i)))
abbrev bv (b : Bool) : Slot := .c (.v (.lit (.bool b)))
abbrev sv (s : ByteArray) : Slot := .c (.v (.lit (.string s)))
abbrev pv (k : Nat) : Slot := .c (.v (.lit (.pointer (some ⟨k, 0, none⟩))))

/-- What a round's body comes to. -/
def kS : Ex → St → Option ((AV × AV × Heap) ⊕ (AV × Heap))
  | .normal, st => ((st.s 3).av).bind fun a => ((st.s 10).av).bind fun b => some (.inl (a, b, st.h))
  | .ret, st => ((st.s 2).av).bind fun a => some (.inr (a, st.h))
  | _, _ => none
theorem b1nf (h : Heap) (x3 x10 x13 x14 : AV) : evC E0 {} Try.f178.ntmps call0 0 b1 0 (S [(3, .c (.v x3)), (10, .c (.v x10)), (11, .c (.v (.tup [.lit (.bool true), x13, x14])))] h) kS kN = (binAV E0 .eql 3 x13 (.lit (.int .i64 0))).bind fun r1 => (boolOf r1).bind fun b2 => cond b2 (onOut (call0 180 [x14] h) (fun a3 h4 => (boolOf a3).bind fun b5 => cond b5 (some (.inl (.lit (.int .i64 1), x10, h4))) ((binAV E0 .eql 3 x13 (.lit (.int .i64 0))).bind fun r6 => (boolOf r6).bind fun b7 => cond b7 (onOut (call0 181 [x14] h4) (fun a8 h9 => (boolOf a8).bind fun b10 => cond b10 (some (.inl (.lit (.int .i64 2), x10, h9))) ((binAV E0 .gtr 3 x13 (.lit (.int .i64 0))).bind fun r11 => (boolOf r11).bind fun b12 => cond b12 ((binAV E0 .neq 3 x3 (.lit (.int .i64 0))).bind fun r13 => (boolOf r13).bind fun b14 => cond b14 (onOut (call0 180 [x14] h9) (fun a15 h16 => (boolOf a15).bind fun b17 => cond b17 (some (.inl (x3, x10, h16))) (onOut (call0 182 [x14] h16) (fun a18 h19 => (boolOf a18).bind fun b20 => cond b20 (some (.inl (x3, x10, h19))) ((binAV E0 .gtr 3 x13 (.lit (.int .i64 0))).bind fun r21 => (boolOf r21).bind fun b22 => cond b22 ((binAV E0 .eql 3 x3 (.lit (.int .i64 2))).bind fun r23 => (boolOf r23).bind fun b24 => cond b24 (onOut (call0 181 [x14] h19) (fun a25 h26 => (boolOf a25).bind fun b27 => cond b27 (some (.inl (x3, x10, h26))) (some (.inr (.lit (.int .i64 0), h26)))) (fun _ _ _ => none) (fun _ _ => none)) (some (.inr (.lit (.int .i64 0), h19)))) (some (.inr (.lit (.int .i64 0), h19))))) (fun _ _ _ => none) (fun _ _ => none))) (fun _ _ _ => none) (fun _ _ => none)) ((binAV E0 .gtr 3 x13 (.lit (.int .i64 0))).bind fun r28 => (boolOf r28).bind fun b29 => cond b29 ((binAV E0 .eql 3 x3 (.lit (.int .i64 2))).bind fun r30 => (boolOf r30).bind fun b31 => cond b31 (onOut (call0 181 [x14] h9) (fun a32 h33 => (boolOf a32).bind fun b34 => cond b34 (some (.inl (x3, x10, h33))) (some (.inr (.lit (.int .i64 0), h33)))) (fun _ _ _ => none) (fun _ _ => none)) (some (.inr (.lit (.int .i64 0), h9)))) (some (.inr (.lit (.int .i64 0), h9))))) ((binAV E0 .gtr 3 x13 (.lit (.int .i64 0))).bind fun r35 => (boolOf r35).bind fun b36 => cond b36 ((binAV E0 .eql 3 x3 (.lit (.int .i64 2))).bind fun r37 => (boolOf r37).bind fun b38 => cond b38 (onOut (call0 181 [x14] h9) (fun a39 h40 => (boolOf a39).bind fun b41 => cond b41 (some (.inl (x3, x10, h40))) (some (.inr (.lit (.int .i64 0), h40)))) (fun _ _ _ => none) (fun _ _ => none)) (some (.inr (.lit (.int .i64 0), h9)))) (some (.inr (.lit (.int .i64 0), h9)))))) (fun _ _ _ => none) (fun _ _ => none)) ((binAV E0 .gtr 3 x13 (.lit (.int .i64 0))).bind fun r42 => (boolOf r42).bind fun b43 => cond b43 ((binAV E0 .neq 3 x3 (.lit (.int .i64 0))).bind fun r44 => (boolOf r44).bind fun b45 => cond b45 (onOut (call0 180 [x14] h4) (fun a46 h47 => (boolOf a46).bind fun b48 => cond b48 (some (.inl (x3, x10, h47))) (onOut (call0 182 [x14] h47) (fun a49 h50 => (boolOf a49).bind fun b51 => cond b51 (some (.inl (x3, x10, h50))) ((binAV E0 .gtr 3 x13 (.lit (.int .i64 0))).bind fun r52 => (boolOf r52).bind fun b53 => cond b53 ((binAV E0 .eql 3 x3 (.lit (.int .i64 2))).bind fun r54 => (boolOf r54).bind fun b55 => cond b55 (onOut (call0 181 [x14] h50) (fun a56 h57 => (boolOf a56).bind fun b58 => cond b58 (some (.inl (x3, x10, h57))) (some (.inr (.lit (.int .i64 0), h57)))) (fun _ _ _ => none) (fun _ _ => none)) (some (.inr (.lit (.int .i64 0), h50)))) (some (.inr (.lit (.int .i64 0), h50))))) (fun _ _ _ => none) (fun _ _ => none))) (fun _ _ _ => none) (fun _ _ => none)) ((binAV E0 .gtr 3 x13 (.lit (.int .i64 0))).bind fun r59 => (boolOf r59).bind fun b60 => cond b60 ((binAV E0 .eql 3 x3 (.lit (.int .i64 2))).bind fun r61 => (boolOf r61).bind fun b62 => cond b62 (onOut (call0 181 [x14] h4) (fun a63 h64 => (boolOf a63).bind fun b65 => cond b65 (some (.inl (x3, x10, h64))) (some (.inr (.lit (.int .i64 0), h64)))) (fun _ _ _ => none) (fun _ _ => none)) (some (.inr (.lit (.int .i64 0), h4)))) (some (.inr (.lit (.int .i64 0), h4))))) ((binAV E0 .gtr 3 x13 (.lit (.int .i64 0))).bind fun r66 => (boolOf r66).bind fun b67 => cond b67 ((binAV E0 .eql 3 x3 (.lit (.int .i64 2))).bind fun r68 => (boolOf r68).bind fun b69 => cond b69 (onOut (call0 181 [x14] h4) (fun a70 h71 => (boolOf a70).bind fun b72 => cond b72 (some (.inl (x3, x10, h71))) (some (.inr (.lit (.int .i64 0), h71)))) (fun _ _ _ => none) (fun _ _ => none)) (some (.inr (.lit (.int .i64 0), h4)))) (some (.inr (.lit (.int .i64 0), h4))))))) (fun _ _ _ => none) (fun _ _ => none)) ((binAV E0 .eql 3 x13 (.lit (.int .i64 0))).bind fun r73 => (boolOf r73).bind fun b74 => cond b74 (onOut (call0 181 [x14] h) (fun a75 h76 => (boolOf a75).bind fun b77 => cond b77 (some (.inl (.lit (.int .i64 2), x10, h76))) ((binAV E0 .gtr 3 x13 (.lit (.int .i64 0))).bind fun r78 => (boolOf r78).bind fun b79 => cond b79 ((binAV E0 .neq 3 x3 (.lit (.int .i64 0))).bind fun r80 => (boolOf r80).bind fun b81 => cond b81 (onOut (call0 180 [x14] h76) (fun a82 h83 => (boolOf a82).bind fun b84 => cond b84 (some (.inl (x3, x10, h83))) (onOut (call0 182 [x14] h83) (fun a85 h86 => (boolOf a85).bind fun b87 => cond b87 (some (.inl (x3, x10, h86))) ((binAV E0 .gtr 3 x13 (.lit (.int .i64 0))).bind fun r88 => (boolOf r88).bind fun b89 => cond b89 ((binAV E0 .eql 3 x3 (.lit (.int .i64 2))).bind fun r90 => (boolOf r90).bind fun b91 => cond b91 (onOut (call0 181 [x14] h86) (fun a92 h93 => (boolOf a92).bind fun b94 => cond b94 (some (.inl (x3, x10, h93))) (some (.inr (.lit (.int .i64 0), h93)))) (fun _ _ _ => none) (fun _ _ => none)) (some (.inr (.lit (.int .i64 0), h86)))) (some (.inr (.lit (.int .i64 0), h86))))) (fun _ _ _ => none) (fun _ _ => none))) (fun _ _ _ => none) (fun _ _ => none)) ((binAV E0 .gtr 3 x13 (.lit (.int .i64 0))).bind fun r95 => (boolOf r95).bind fun b96 => cond b96 ((binAV E0 .eql 3 x3 (.lit (.int .i64 2))).bind fun r97 => (boolOf r97).bind fun b98 => cond b98 (onOut (call0 181 [x14] h76) (fun a99 h100 => (boolOf a99).bind fun b101 => cond b101 (some (.inl (x3, x10, h100))) (some (.inr (.lit (.int .i64 0), h100)))) (fun _ _ _ => none) (fun _ _ => none)) (some (.inr (.lit (.int .i64 0), h76)))) (some (.inr (.lit (.int .i64 0), h76))))) ((binAV E0 .gtr 3 x13 (.lit (.int .i64 0))).bind fun r102 => (boolOf r102).bind fun b103 => cond b103 ((binAV E0 .eql 3 x3 (.lit (.int .i64 2))).bind fun r104 => (boolOf r104).bind fun b105 => cond b105 (onOut (call0 181 [x14] h76) (fun a106 h107 => (boolOf a106).bind fun b108 => cond b108 (some (.inl (x3, x10, h107))) (some (.inr (.lit (.int .i64 0), h107)))) (fun _ _ _ => none) (fun _ _ => none)) (some (.inr (.lit (.int .i64 0), h76)))) (some (.inr (.lit (.int .i64 0), h76)))))) (fun _ _ _ => none) (fun _ _ => none)) ((binAV E0 .gtr 3 x13 (.lit (.int .i64 0))).bind fun r109 => (boolOf r109).bind fun b110 => cond b110 ((binAV E0 .neq 3 x3 (.lit (.int .i64 0))).bind fun r111 => (boolOf r111).bind fun b112 => cond b112 (onOut (call0 180 [x14] h) (fun a113 h114 => (boolOf a113).bind fun b115 => cond b115 (some (.inl (x3, x10, h114))) (onOut (call0 182 [x14] h114) (fun a116 h117 => (boolOf a116).bind fun b118 => cond b118 (some (.inl (x3, x10, h117))) ((binAV E0 .gtr 3 x13 (.lit (.int .i64 0))).bind fun r119 => (boolOf r119).bind fun b120 => cond b120 ((binAV E0 .eql 3 x3 (.lit (.int .i64 2))).bind fun r121 => (boolOf r121).bind fun b122 => cond b122 (onOut (call0 181 [x14] h117) (fun a123 h124 => (boolOf a123).bind fun b125 => cond b125 (some (.inl (x3, x10, h124))) (some (.inr (.lit (.int .i64 0), h124)))) (fun _ _ _ => none) (fun _ _ => none)) (some (.inr (.lit (.int .i64 0), h117)))) (some (.inr (.lit (.int .i64 0), h117))))) (fun _ _ _ => none) (fun _ _ => none))) (fun _ _ _ => none) (fun _ _ => none)) ((binAV E0 .gtr 3 x13 (.lit (.int .i64 0))).bind fun r126 => (boolOf r126).bind fun b127 => cond b127 ((binAV E0 .eql 3 x3 (.lit (.int .i64 2))).bind fun r128 => (boolOf r128).bind fun b129 => cond b129 (onOut (call0 181 [x14] h) (fun a130 h131 => (boolOf a130).bind fun b132 => cond b132 (some (.inl (x3, x10, h131))) (some (.inr (.lit (.int .i64 0), h131)))) (fun _ _ _ => none) (fun _ _ => none)) (some (.inr (.lit (.int .i64 0), h)))) (some (.inr (.lit (.int .i64 0), h))))) ((binAV E0 .gtr 3 x13 (.lit (.int .i64 0))).bind fun r133 => (boolOf r133).bind fun b134 => cond b134 ((binAV E0 .eql 3 x3 (.lit (.int .i64 2))).bind fun r135 => (boolOf r135).bind fun b136 => cond b136 (onOut (call0 181 [x14] h) (fun a137 h138 => (boolOf a137).bind fun b139 => cond b139 (some (.inl (x3, x10, h138))) (some (.inr (.lit (.int .i64 0), h138)))) (fun _ _ _ => none) (fun _ _ => none)) (some (.inr (.lit (.int .i64 0), h)))) (some (.inr (.lit (.int .i64 0), h)))))) := by kernel_rfl

/-- One round, of plain values: the next kind; none: no name. -/
def stepP (z : Bool) (k c : Int) : Option Int :=
  bif z && lowB c then some 1 else bif z && upB c then some 2 else bif !z && (k != 0 && (lowB c || digB c)) then some k else bif !z && (k == 2 && upB c) then some k else none
def outP (q : Nat) (h : Heap) (r : Option Int) : (AV × AV × Heap) ⊕ (AV × Heap) := match r with
  | some k => .inl (.lit (.int .i64 k), .lit (.pointer (some ⟨q, 0, none⟩)), h)
  | none => .inr (.lit (.int .i64 0), h)

theorem body_ok (h : Heap) (k c : Int) (i q : Nat) (b : Bool) : evC E0 {} Try.f178.ntmps call0 0 b1 0 (S [(3, iv k), (10, pv q), (11, .c (.v (.tup [.lit (.bool true), .lit (.int .i64 (i : Int)), .lit (.int .i32 c)])))] h) kS kN = some (outP q h (stepP (i == 0) k c)) := by
  rw [b1nf]
  have e1 : (((i : Int) == 0)) = (i == 0) := by rw [Bool.eq_iff_iff]; simp
  have e2 : decide ((i : Int) > 0) = !(i == 0) := by rw [Bool.eq_iff_iff]; simp; omega
  simp only [bin_int, eqlI, neqI, gtrI, bind_some', boolB, low0, up0, dig0, onOut_ret, e1, e2]
  unfold stepP
  cases i == 0 <;> cases lowB c <;> cases upB c <;> cases digB c <;> cases k != 0 <;> cases k == 2 <;> rfl

section
variable (s : ByteArray) (h : Heap)
theorem e0 : ev0 [0] R0 (S [(0, sv s)] h) = some ([(0, sv s)], h) := by kernel_rfl
theorem e1 : ev0 [0, 8] R1 (S [(0, sv s)] h) = some ([(0, sv s), (8, bv (decide ((s.size : Int) > 8)))], h) := by kernel_rfl
theorem e2 (st : Nat → Slot) : ev0 [2] R2 { s := st, h := h } = some ([(2, iv 0)], h) := by kernel_rfl
theorem e3 (b : Bool) : ev0 [0, 3] R3 (S [(0, sv s), (8, bv b)] h) = some ([(0, sv s), (3, iv 0)], h) := by kernel_rfl
theorem e40 : stepK E0 {} Try.f178.ntmps call0 (opsOf R4) 0 (o4 0) (S [(0, sv s), (3, iv 0)] h) (kLs [3, 9]) kN = some ([(3, iv 0), (9, sv s)], h) := by kernel_rfl
theorem e51 (k : Int) (q : Nat) (x y : AV) : stepK E0 {} Try.f178.ntmps call0 (opsOf R5) 1 (o5 1) { s := upd (lkS [(3, iv k), (10, pv q)]) 11 (.c (.v (.tup [.lit (.bool true), x, y]))), h := h } (kLs [3, 10, 11, 12]) kN = some ([(3, iv k), (10, pv q), (11, .c (.v (.tup [.lit (.bool true), x, y]))), (12, bv true)], h) := by kernel_rfl
theorem e51f (k : Int) (q : Nat) : stepK E0 {} Try.f178.ntmps call0 (opsOf R5) 1 (o5 1) { s := upd (lkS [(3, iv k), (10, pv q)]) 11 (.c (.v (.tup [.lit (.bool false)]))), h := h } (kLs [3, 12]) kN = some ([(3, iv k), (12, bv false)], h) := by kernel_rfl
theorem e14 (k : Int) : ev0 [2] R14 (S [(3, iv k)] h) = some ([(2, iv k)], h) := by kernel_rfl
theorem fin2 (k : Int) : finish E0 {} Try.f178 h (S [(2, iv k)] h) = some (.ret (.lit (.int .i64 k)), h) := by kernel_rfl
end

/-- From a place on. -/
def goP (s : ByteArray) : Nat → Nat → Int → Int
  | 0, _, _ => 0
  | m + 1, pos, k => if h : pos < s.size then (match stepP (pos == 0) k (Utf8.decode s pos).1 with
      | some k' => goP s m (pos + (Utf8.decode s pos).2) k'
      | none => 0) else k
theorem decode_pos (s : ByteArray) (pos : Nat) : 1 ≤ (Utf8.decode s pos).2 := by
  simp only [Utf8.decode]
  repeat' split
  all_goals first | exact Nat.le_refl 1 | exact (by decide : 1 ≤ 2) | exact (by decide : 1 ≤ 3) | exact (by decide : 1 ≤ 4)

theorem decode_le (s : ByteArray) (pos : Nat) (h : pos < s.size) : pos + (Utf8.decode s pos).2 ≤ s.size := by
  simp only [Utf8.decode]
  repeat' split
  all_goals rename_i hc
  all_goals simp only [Bool.and_eq_true, decide_eq_true_eq] at *
  all_goals first | (show pos + 1 ≤ s.size; omega) | (show pos + 2 ≤ s.size; omega) | (show pos + 3 ≤ s.size; omega) | (show pos + 4 ≤ s.size; omega)

theorem slotA {d : Nat} {G : Gh} {w : World} {st : St} {a : Act} (r : RepSt d G w st a.tmps) {i : Nat} {x : AV} (h : st.s i = .c (.v x)) : RepA G.S w G.μ x (a.tmps.getD i undef) := by
  have := r.slot i
  rw [h] at this; exact this

theorem done_ok {d : Nat} {G0 : Gh} {w0 : World} {h : Heap} {a : Act} {w : World} {k : Int} (hat : AtSt d Try.f178.ntmps G0 w0 (S [(2, iv k)] h) a w) (hd : a.defers = []) : bodyPost Try.prog Try.f178 (EndOk d G0 w0 (.ret (.lit (.int .i64 k))) h) .ret a w := by
  obtain ⟨G, r, hnt, hf⟩ := hat
  obtain ⟨v, k1, ⟨G', k2, k3, k4, k5⟩, _⟩ := finish_ok (G0 := G) (w0 := w) okE0 r.heap r (Fr.refl _ _ _) (fin2 h k)
  exact ⟨hd, v, k1, G', hf.trans k2, k3, k4, k5⟩
theorem of_avs {d : Nat} {G : Gh} {w : World} {st : St} {tmps : Array Value} (r : RepSt d G w st tmps) (l : List (Nat × AV)) (hl : ∀ p ∈ l, (st.s p.1).av = some p.2) : RepSt d G w (S (l.map fun p => (p.1, .c (.v p.2))) st.h) tmps := by
  refine ⟨fun i => ?_, fun u t off hu => ?_, r.heap, r.within⟩
  · show RepSlot G w d i (lkS _ i) _
    rcases lkS_spec (l.map fun p => (p.1, Slot.c (.v p.2))) i with e | e
    · rw [e]; trivial
    · obtain ⟨p, hp, e2⟩ := List.mem_map.1 e
      have e3 := (Prod.mk.inj e2).1; have e4 := (Prod.mk.inj e2).2
      subst e3; rw [← e4]; exact (r.slot p.1).av (hl p hp)
  · have hu : lkS (l.map fun p => (p.1, Slot.c (.v p.2))) u = .path t off := hu
    rcases lkS_spec (l.map fun p => (p.1, Slot.c (.v p.2))) u with e | e
    · rw [e] at hu; cases hu
    · obtain ⟨p, hp, e2⟩ := List.mem_map.1 e
      have e4 := (Prod.mk.inj e2).2
      rw [hu] at e4; cases e4

theorem loop_ok {d q : Nat} {G0 : Gh} {w0 : World} {h : Heap} {s : ByteArray} (hq : w0.heap.size ≤ q) {r : Int} {Q : Exit → Act → World → Prop}
    (hex : ∀ a w, AtSt d Try.f178.ntmps G0 w0 (S [(3, iv r)] h) a w → a.defers = [] → Q (.exit 0) a w)
    (hret : r = 0 → ∀ a w, AtSt d Try.f178.ntmps G0 w0 (S [(2, iv 0)] h) a w → a.defers = [] → Q .ret a w) :
    ∀ (m pos : Nat) (k : Int) (a : Act) (G : Gh) (w : World), s.size < m + pos → pos ≤ s.size → goP s m pos k = r → RepSt d G w (S [(3, iv k), (10, pv q)] h) a.tmps → a.tmps.size = Try.f178.ntmps → Fr d G0 w0 G w → G.O q = .none → w.heap[q]? = some (.stringIter s pos) → a.defers = [] →
      Code.roundsIn (FF none) 0 Try.prog lp Q m a w
  | 0, pos, k, a, G, w, h1, hle, hr, rs, hn, hf, ho, hi, hd => by omega
  | m + 1, pos, k, a, G, w, h1, hle, hr, rs, hn, hf, ho, hi, hd => by
    rw [roundsIn_succ]
    refine wpIn_seq (wpIn_region ?_)
    change wpOpsIn _ _ _ (opsOf R5) _ [0, 1] _ _
    rw [wpOpsIn_cons]
    have v10 : a.tmps.getD 10 undef = .pointer (some ⟨q, 0, none⟩) := (slotA rs (i := 10) rfl).litE
    have hev : a.eval (.tmp 10) = .pointer (some ⟨q, 0, none⟩) := v10
    have hx : ∀ arr T fz, Obj.stringIter s pos ≠ .cells arr T fz := fun _ _ _ e => by cases e
    unfold goP at hr
    by_cases hp : pos < s.size
    · rw [dif_pos hp] at hr
      have hy : ∀ arr T fz, Obj.stringIter s (pos + (Utf8.decode s pos).2) ≠ .cells arr T fz := fun _ _ _ e => by cases e
      have rs1 := st_putN (y := .stringIter s (pos + (Utf8.decode s pos).2)) hi hx hy ho rs
      have f1 : Fr d G0 w0 G (w.putObj q (.stringIter s (pos + (Utf8.decode s pos).2))) := hf.putN hq hi hx hy
      refine step_value (o := o5 0) (nt := Try.f178.ntmps) (st := S _ h) (x := .tup [.lit (.bool true), .lit (.int .i64 (pos : Int)), .lit (.int .i32 ((Utf8.decode s pos).1 : Int))]) (v := .tuple #[.bool true, .int .i64 pos, .int .i32 (Utf8.decode s pos).1]) (w' := w.putObj q (.stringIter s (pos + (Utf8.decode s pos).2))) (G' := G) rfl rfl rfl (fun c hc => by cases hc) (by decide) rfl hn ?_ rs1 (.tup (.cons (.lit rfl) (.cons (.lit rfl) (.cons (.lit rfl) .nil)))) fun a1 r1 n1 d1 => ?_
      · have hnx := Lib.run_next_any_at (P := Try.prog) w q s pos (o5 0).type hi hp
        unfold execOp
        show Sem.run Try.prog (Instr.next (a.eval (.tmp 10)) true _ >>= _) w = _
        rw [hev, Sem.run_bind, hnx]
        rfl
      · rw [wpOpsIn_cons]
        refine step_keep okE0 call0_ok (H := {}) (G0 := G) (w0 := w.putObj q (.stringIter s (pos + (Utf8.decode s pos).2))) rfl [3, 10, 11, 12] (e51 h k q _ _) ⟨G, r1, n1, Fr.refl _ _ _⟩ (d1.trans hd) fun a2 w2 hat2 hd2 => ?_
        obtain ⟨G2, r2, n2, f2⟩ := hat2
        refine wpIn_seq (wpIn_cond_true (slotA r2 (i := 12) rfl).litE (wpIn_skip ?_))
        have rk := r2.keep (some [3, 10, 11])
        refine Code.wpIn_mono (fun e a3 w3 hq3 => ?_) (evC_ok (ro := none) (nn := 0) (D := []) (G0 := G2) (w0 := w2) okE0 call0_ok b1 0 _ kS a2 w2 (body_ok h k (Utf8.decode s pos).1 pos q true) ⟨G2, rk, n2, Fr.refl _ _ _⟩ hd2)
        obtain ⟨hd3, hq3⟩ := hq3
        have hq0 : q < (w.putObj q (.stringIter s (pos + (Utf8.decode s pos).2))).heap.size := by simpa using lt_of_heap hi
        have s2 := f2.same q hq0 (by rw [ho]; rfl)
        have hi2 : w2.heap[q]? = some (.stringIter s (pos + (Utf8.decode s pos).2)) := s2.1.trans (put_same (lt_of_heap hi))
        cases e with
        | normal =>
          obtain ⟨st', G3, k1, k2, k3, k4⟩ := hq3
          unfold kS at k1
          simp only at k1
          rw [Option.bind_eq_some_iff] at k1; obtain ⟨x3, hx3, k1⟩ := k1
          rw [Option.bind_eq_some_iff] at k1; obtain ⟨x10, hx10, k1⟩ := k1
          have k1 := Option.some.inj k1
          cases hs : stepP (pos == 0) k ((Utf8.decode s pos).1 : Int) with
          | none => rw [hs] at k1; cases k1
          | some k' =>
            rw [hs] at k1 hr
            simp only [outP, Sum.inl.injEq, Prod.mk.injEq] at k1
            obtain ⟨rfl, rfl, hh⟩ := k1
            have rk3 := of_avs k2 [(3, .lit (.int .i64 k')), (10, .lit (.pointer (some ⟨q, 0, none⟩)))] (fun p hp => by
              simp only [List.mem_cons, List.not_mem_nil, or_false] at hp
              rcases hp with e | e
              · rw [e]; exact hx3
              · rw [e]; exact hx10)
            rw [hh] at rk3
            have s3 := k4.same q (lt_of_heap hi2) (by rw [s2.2.2, ho]; rfl)
            have hw := decode_pos s pos
            exact loop_ok hq hex hret m _ k' a3 G3 w3 (by omega) (decode_le s pos hp) hr rk3 k3 ((f1.trans f2).trans k4) (s3.2.2.trans (s2.2.2.trans ho)) (s3.1.trans hi2) hd3
        | ret =>
          obtain ⟨st', G3, k1, k2, k3, k4⟩ := hq3
          unfold kS at k1
          simp only at k1
          rw [Option.bind_eq_some_iff] at k1; obtain ⟨x2, hx2, k1⟩ := k1
          have k1 := Option.some.inj k1
          cases hs : stepP (pos == 0) k ((Utf8.decode s pos).1 : Int) with
          | some k' => rw [hs] at k1; cases k1
          | none =>
            rw [hs] at k1 hr
            simp only [outP, Sum.inr.injEq, Prod.mk.injEq] at k1
            obtain ⟨rfl, hh⟩ := k1
            have rk3 := of_avs k2 [(2, .lit (.int .i64 0))] (fun p hp => by
              simp only [List.mem_cons, List.not_mem_nil, or_false] at hp
              rw [hp]; exact hx2)
            rw [hh] at rk3
            exact hret hr.symm a3 w3 ⟨G3, rk3, k3, (f1.trans f2).trans k4⟩ hd3
        | exit i => obtain ⟨st', G3, k1, _⟩ := hq3; cases k1
        | panic ch => obtain ⟨x, v, G3, h', _, k1, _⟩ := hq3; cases k1
        | goto l => exact hq3.elim
        | outgrown => exact hq3.elim
    · rw [dif_neg hp] at hr
      subst hr
      refine step_value (o := o5 0) (nt := Try.f178.ntmps) (st := S _ h) (x := .tup [.lit (.bool false)]) (v := .tuple #[.bool false]) (w' := w) (G' := G) rfl rfl rfl (fun c hc => by cases hc) (by decide) rfl hn ?_ rs (.tup (.cons (.lit rfl) .nil)) fun a1 r1 n1 d1 => ?_
      · have hnx := Lib.run_next_end_at (P := Try.prog) w q s pos (o5 0).type hi hp
        unfold execOp
        show Sem.run Try.prog (Instr.next (a.eval (.tmp 10)) true _ >>= _) w = _
        rw [hev, Sem.run_bind, hnx]
        rfl
      · rw [wpOpsIn_cons]
        refine step_keep okE0 call0_ok (H := {}) (G0 := G0) (w0 := w0) rfl [3, 12] (e51f h k q) ⟨G, r1, n1, hf⟩ (d1.trans hd) fun a2 w2 hat2 hd2 => ?_
        obtain ⟨G2, r2, n2, f2⟩ := hat2
        refine wpIn_seq (wpIn_cond_false (slotA r2 (i := 12) rfl).litE (wpIn_exit ?_))
        exact hex a2 w2 ⟨G2, r2.keep (some [3]), n2, f2⟩ hd2

/-- What a text is by its letters alone. -/
def shapeP (s : ByteArray) : Int := bif decide ((s.size : Int) > 8) then 0 else goP s 10 0 0

theorem shape_ends (s : ByteArray) (h : Heap) : Ends Try.prog 178 [.lit (.string s)] h (.ret (.lit (.int .i64 (shapeP s)))) h := by
  refine ⟨⟨Try.f178, Try.func178, by kernel_rfl, rfl⟩, fun d G w argv hr hh hw => ?_⟩
  refine calls_of_wp Try.func178 rfl ?_
  refine (wpIn_wide (n := 0)).1 ?_
  have hal : argv.size = 1 := by simpa using hr.length.symm
  have hat : AtSt d Try.f178.ntmps G w (S [(0, sv s)] h) { tmps := argv ++ Array.replicate (Try.f178.ntmps - argv.size) undef, defers := [] } w := by
    refine ⟨G, ⟨fun i => ?_, fun u t off hu => ?_, hh, hw⟩, by rw [Array.size_append, Array.size_replicate, hal]; rfl, Fr.refl d G w⟩
    · rcases lkS_spec [(0, sv s)] i with e | e
      · show RepSlot _ _ _ _ (lkS _ _) _
        rw [e]; trivial
      · refine argSlots_spec [.lit (.string s)] 0 argv.toList hr (fun j x hj => ?_) _ e
        have hj' : j < argv.size := by simpa using (List.getElem?_eq_some_iff.1 hj).1
        rw [Nat.zero_add, Array.getD_eq_getD_getElem?, Array.getElem?_append_left hj', ← Array.getElem?_toList, hj]; rfl
    · exfalso
      have hu : lkS [(0, sv s)] u = .path t off := hu
      rcases lkS_spec [(0, sv s)] u with e | e
      · rw [e] at hu; cases hu
      · rw [hu] at e; simp at e
  refine wpIn_seq (seg_keep okE0 call0_ok (H := {}) (n := 0) (bi := 0) [0] (e0 s h) hat rfl fun a1 w1 hat1 hd1 => ?_)
  refine wpIn_seq (wpIn_seq (seg_keep okE0 call0_ok (H := {}) (n := 0) (bi := 0) [0, 8] (e1 s h) hat1 hd1 fun a2 w2 hat2 hd2 => ?_))
  obtain ⟨G2, r2, n2, f2⟩ := hat2
  have hb := (slotA r2 (i := 8) rfl).litE
  unfold shapeP
  cases hd8 : decide ((s.size : Int) > 8) with
  | true =>
    rw [hd8] at hb
    refine wpIn_cond_true hb (wpIn_seq (seg_keep okE0 call0_ok (H := {}) (n := 0) (bi := 0) [2] (e2 h _) ⟨G2, r2, n2, f2⟩ hd2 fun a3 w3 hat3 hd3 => ?_))
    exact wpIn_ret (done_ok hat3 hd3)
  | false =>
    rw [hd8] at hb
    have h9 : ¬ ((s.size : Int) > 8) := of_decide_eq_false hd8
    have h8 : s.size ≤ 8 := by omega
    refine wpIn_cond_false hb (wpIn_skip ?_)
    refine wpIn_seq (seg_keep okE0 call0_ok (H := {}) (n := 0) (bi := 0) [0, 3] (e3 s h _) ⟨G2, r2, n2, f2⟩ hd2 fun a3 w3 hat3 hd3 => ?_)
    refine wpIn_seq (wpIn_seq (wpIn_region ?_))
    change wpOpsIn _ _ _ (opsOf R4) _ [0, 1] _ _
    rw [wpOpsIn_cons]
    refine step_keep okE0 call0_ok (H := {}) rfl [3, 9] (e40 s h) hat3 hd3 fun a4 w4 hat4 hd4 => ?_
    rw [wpOpsIn_cons]
    obtain ⟨G4, r4, n4, f4⟩ := hat4
    have v9 : a4.eval (.tmp 9) = .string s := (slotA r4 (i := 9) rfl).litE
    obtain ⟨ra, fa⟩ := st_alloc (.stringIter s 0) r4
    refine step_value (o := o4 1) (nt := Try.f178.ntmps) (st := S _ h) (x := .lit (.pointer (some ⟨w4.heap.size, 0, none⟩))) (v := .pointer (some ⟨w4.heap.size, 0, none⟩)) (w' := w4.alloc (.stringIter s 0)) (G' := setO G4 w4.heap.size .none) rfl rfl rfl (fun c hc => by cases hc) (by decide) rfl n4 ?_ ra (.lit rfl) fun a5 r5 n5 d5 => ?_
    · have hnx := run_range_string (P := Try.prog) w4 9 s Try.underlying9
      unfold execOp
      show Sem.run Try.prog (Instr.range 9 (a4.eval (.tmp 9)) >>= _) w4 = _
      rw [v9, Sem.run_bind, hnx]
      rfl
    · refine wpIn_block (wpIn_loop_rounds 10 ?_)
      have r6 := r5.keep (some [3, 10])
      refine loop_ok (r := goP s 10 0 0) (h := h) (s := s) (G0 := G) (w0 := w) (q := w4.heap.size) f4.size ?_ ?_ 10 0 0 a5 (setO G4 w4.heap.size .none) (w4.alloc (.stringIter s 0)) (by omega) (Nat.zero_le _) rfl r6 n5 (f4.trans fa) setO_self (heap_alloc_new _ _) (d5.trans hd4)
      · intro a6 w6 hat6 hd6
        show Code.wpIn (FF none) 0 Try.prog (pR t4) (bodyPost Try.prog Try.f178 (EndOk d G w (.ret (.lit (.int .i64 (goP s 10 0 0)))) h)) a6 w6
        refine wpIn_seq (seg_keep okE0 call0_ok (H := {}) (n := 0) (bi := 0) [2] (e14 h _) hat6 hd6 fun a7 w7 hat7 hd7 => ?_)
        exact wpIn_ret (done_ok hat7 hd7)
      · intro hr0 a6 w6 hat6 hd6
        rw [show cond false 0 (goP s 10 0 0) = goP s 10 0 0 from rfl, hr0]
        exact done_ok hat6 hd6
end P178

def p178 : (Nat → List AV → Heap → R) → List AV → Heap → R := fun _ args h => match args with
  | [.lit (.string s)] => some (.ret (.lit (.int .i64 (P178.shapeP s))), h)
  | _ => none
theorem p178_ok (call : Nat → List AV → Heap → R) (args : List AV) (h : Heap) (out : Out) (h' : Heap) (e : p178 call args h = some (out, h')) : Ends Try.prog 178 args h out h' := by
  unfold p178 at e
  split at e
  · have e := Option.some.inj e; cases e
    exact P178.shape_ends _ _
  · cases e
end Go.Sh.T

namespace Go.Sh.T
set_option linter.unusedVariables false
set_option linter.unusedSimpArgs false
open Go Go.Sh Go.Proofs
def p77 : (Nat → List AV → Heap → R) → List AV → Heap → R := fun _ args h => match args with
  | [.sl 12 es] => bif Nat.ble es.length maxApp then some (.own 12 es, h) else none
  | _ => none
theorem p77_ok (call : Nat → List AV → Heap → R) (args : List AV) (h : Heap) (out : Out) (h' : Heap) (e : p77 call args h = some (out, h')) : Ends Try.prog 77 args h out h' := by
  unfold p77 at e
  split at e
  · obtain ⟨hs, e⟩ := condE e
    have e := Option.some.inj e; cases e
    exact clone77 _ (bleE hs) _
  · cases e
end Go.Sh.T

namespace Go.Sh.T
open Go Go.Sh Go.Proofs
set_option maxRecDepth 1000000
set_option linter.unusedVariables false
noncomputable def prims : List (Nat × ((Nat → List AV → Heap → R) → List AV → Heap → R)) := [(77, p77), (130, p130), (178, p178)]
noncomputable def E : Env := mkEnv Try.prog fs ts prims hints [25]
theorem okE : E.Ok := mkEnv_ok (gs := gs) allF allG allT (by kernel_rfl) (by kernel_rfl) rfl (by kernel_rfl) (by kernel_rfl)
section
variable (F : Nat → List AV → Heap → R) (n : Nat) (h0 : Heap)
-- 3 limbeck/limbecklaw28.SealStay
noncomputable def Lp3_1 (m : Nat) (h : Heap) (x74 : AV) (x75 : AV) (x76 : AV) (x77 : AV) (z78 : List (List AV)) (x79 : AV) (x80 : AV) (x81 : AV) : R := loopAt E 3 Try.f3 F n h0 [.r, .r, .r, .r, .r, .r, .r, .l, .r, .b] m { s := lkS [(0, .c (.v x74)), (2, .c (.v x75)), (7, .loc [.v x76, .v x77]), (9, .c (.own 5 z78)), (13, .c (.v x79)), (14, .c (.v x80)), (15, .c (.v x81))], h := h }
theorem Lp3_1_zero (h : Heap) (x74 : AV) (x75 : AV) (x76 : AV) (x77 : AV) (z78 : List (List AV)) (x79 : AV) (x80 : AV) (x81 : AV) : Lp3_1 F n h0 0 h x74 x75 x76 x77 z78 x79 x80 x81 = none := by kernel_rfl
theorem Lp3_1_succ (m : Nat) (h : Heap) (x74 : AV) (x75 : AV) (x76 : AV) (x77 : AV) (z78 : List (List AV)) (x79 : AV) (x80 : AV) (x81 : AV) : Lp3_1 F n h0 (m + 1) h x74 x75 x76 x77 z78 x79 x80 x81 = (lenA E 22 x79).bind fun n82 => (binAV E .lss 3 x81 (.lit (.int .i64 n82))).bind fun r83 => (boolOf r83).bind fun b84 => cond b84 (onOut (F 21 [x79, x81] h) (fun a85 h86 => (tupOf a85).bind fun l87 => (l87[0]?).bind fun v88 => (tupOf a85).bind fun l89 => (l89[1]?).bind fun v90 => (aggOf v88).bind fun l91 => cond (Nat.beq l91.length 12) ((unAV .not v90).bind fun r92 => (boolOf r92).bind fun b93 => cond b93 (some (.ret (.lit (.bool false)), h86)) ((binAV E .lss 3 x81 x80).bind fun r94 => (boolOf r94).bind fun b95 => cond b95 ((binAV E .add 3 x81 (.lit (.int .i64 1))).bind fun r96 => (sliceA E 22 x74 (some x81) (some r96)).bind fun v97 => onOut (F 22 [.sl 12 [[(l91.getD 0 .dead), (l91.getD 1 .dead), (l91.getD 2 .dead), (l91.getD 3 .dead), (l91.getD 4 .dead), (l91.getD 5 .dead), (l91.getD 6 .dead), (l91.getD 7 .dead), (l91.getD 8 .dead), (l91.getD 9 .dead), (l91.getD 10 .dead), (l91.getD 11 .dead)]], v97] h86) (fun a98 h99 => (unAV .not a98).bind fun r100 => (boolOf r100).bind fun b101 => cond b101 (some (.ret (.lit (.bool false)), h99)) ((binAV E .geq 3 x81 x80).bind fun r102 => (boolOf r102).bind fun b103 => cond b103 ((binAV E .sub 3 x81 x80).bind fun r104 => (indexA 5 (.sl 5 z78) r104).bind fun e105 => (partA true 5 0 e105).bind fun v106 => onOut (F 23 [.agg [(l91.getD 0 .dead), (l91.getD 1 .dead), (l91.getD 2 .dead), (l91.getD 3 .dead), (l91.getD 4 .dead)], v106] h99) (fun a107 h108 => (unAV .not a107).bind fun r109 => (boolOf r109).bind fun b110 => cond b110 (some (.ret (.lit (.bool false)), h108)) ((binAV E .sub 3 x81 x80).bind fun r111 => (indexA 6 x75 r111).bind fun e112 => cond (Nat.ble 1 e112.length) ((partA true 5 0 (e112.drop 1)).bind fun v113 => onOut (F 23 [.agg [(l91.getD 5 .dead), (l91.getD 6 .dead), (l91.getD 7 .dead), (l91.getD 8 .dead), (l91.getD 9 .dead)], v113] h108) (fun a114 h115 => (unAV .not a114).bind fun r116 => (boolOf r116).bind fun b117 => cond b117 (some (.ret (.lit (.bool false)), h115)) ((binAV E .neq 25 (.agg [(l91.getD 10 .dead), (l91.getD 11 .dead)]) (.agg [x76, x77])).bind fun r118 => (boolOf r118).bind fun b119 => cond b119 (some (.ret (.lit (.bool false)), h115)) ((binAV E .add 3 x81 (.lit (.int .i64 1))).bind fun r120 => Lp3_1 F n h0 m h115 x74 x75 x76 x77 z78 x79 x80 r120))) (fun _ _ _ => none) (fun _ _ => none)) none)) (fun _ _ _ => none) (fun _ _ => none)) ((binAV E .add 3 x81 (.lit (.int .i64 1))).bind fun r121 => Lp3_1 F n h0 m h99 x74 x75 x76 x77 z78 x79 x80 r121))) (fun _ _ _ => none) (fun _ _ => none)) ((binAV E .geq 3 x81 x80).bind fun r122 => (boolOf r122).bind fun b123 => cond b123 ((binAV E .sub 3 x81 x80).bind fun r124 => (indexA 5 (.sl 5 z78) r124).bind fun e125 => (partA true 5 0 e125).bind fun v126 => onOut (F 23 [.agg [(l91.getD 0 .dead), (l91.getD 1 .dead), (l91.getD 2 .dead), (l91.getD 3 .dead), (l91.getD 4 .dead)], v126] h86) (fun a127 h128 => (unAV .not a127).bind fun r129 => (boolOf r129).bind fun b130 => cond b130 (some (.ret (.lit (.bool false)), h128)) ((binAV E .sub 3 x81 x80).bind fun r131 => (indexA 6 x75 r131).bind fun e132 => cond (Nat.ble 1 e132.length) ((partA true 5 0 (e132.drop 1)).bind fun v133 => onOut (F 23 [.agg [(l91.getD 5 .dead), (l91.getD 6 .dead), (l91.getD 7 .dead), (l91.getD 8 .dead), (l91.getD 9 .dead)], v133] h128) (fun a134 h135 => (unAV .not a134).bind fun r136 => (boolOf r136).bind fun b137 => cond b137 (some (.ret (.lit (.bool false)), h135)) ((binAV E .neq 25 (.agg [(l91.getD 10 .dead), (l91.getD 11 .dead)]) (.agg [x76, x77])).bind fun r138 => (boolOf r138).bind fun b139 => cond b139 (some (.ret (.lit (.bool false)), h135)) ((binAV E .add 3 x81 (.lit (.int .i64 1))).bind fun r140 => Lp3_1 F n h0 m h135 x74 x75 x76 x77 z78 x79 x80 r140))) (fun _ _ _ => none) (fun _ _ => none)) none)) (fun _ _ _ => none) (fun _ _ => none)) ((binAV E .add 3 x81 (.lit (.int .i64 1))).bind fun r141 => Lp3_1 F n h0 m h86 x74 x75 x76 x77 z78 x79 x80 r141)))) none) (fun _ _ _ => none) (fun _ _ => none)) (onOut (F 17 [] h) (fun a142 h143 => some (.ret a142, h143)) (fun _ _ _ => none) (fun _ _ => none)) := by kernel_rfl
noncomputable def Lp3_0 (m : Nat) (h : Heap) (x28 : AV) (x29 : AV) (x30 : AV) (x31 : AV) (x32 : AV) (z33 : List (List AV)) (x34 : AV) (x35 : AV) : R := loopAt E 3 Try.f3 F n h0 [.r, .r, .r, .r, .l, .r, .b] m { s := lkS [(0, .c (.v x28)), (1, .c (.v x29)), (2, .c (.v x30)), (7, .loc [.v x31, .v x32]), (9, .c (.own 5 z33)), (10, .c (.v x34)), (11, .c (.v x35))], h := h }
theorem Lp3_0_zero (h : Heap) (x28 : AV) (x29 : AV) (x30 : AV) (x31 : AV) (x32 : AV) (z33 : List (List AV)) (x34 : AV) (x35 : AV) : Lp3_0 F n h0 0 h x28 x29 x30 x31 x32 z33 x34 x35 = none := by kernel_rfl
theorem Lp3_0_succ (m : Nat) (h : Heap) (x28 : AV) (x29 : AV) (x30 : AV) (x31 : AV) (x32 : AV) (z33 : List (List AV)) (x34 : AV) (x35 : AV) : Lp3_0 F n h0 (m + 1) h x28 x29 x30 x31 x32 z33 x34 x35 = (lenA E 23 x29).bind fun n36 => (binAV E .lss 3 x35 (.lit (.int .i64 n36))).bind fun r37 => (boolOf r37).bind fun b38 => cond b38 ((lenA E 23 x30).bind fun n39 => (binAV E .lss 3 x35 (.lit (.int .i64 n39))).bind fun r40 => (boolOf r40).bind fun b41 => cond b41 ((indexA 6 x29 x35).bind fun e42 => cond (Nat.ble 1 e42.length) ((partA true 5 0 (e42.drop 1)).bind fun v43 => (aggOf v43).bind fun l44 => cond (Nat.beq l44.length 5) (cond (Nat.ble (z33.length + ([[(l44.getD 0 .dead), (l44.getD 1 .dead), (l44.getD 2 .dead), (l44.getD 3 .dead), (l44.getD 4 .dead)]] : List (List AV)).length) maxApp) ((boolOf x34).bind fun b45 => cond b45 ((slOf 12 x28).bind fun ys46 => cond (Nat.ble (([] : List (List AV)).length + ys46.length) maxApp) ((indexA 6 x30 x35).bind fun e47 => cond (Nat.ble 1 e47.length) ((partA true 5 0 (e47.drop 1)).bind fun v48 => (aggOf v48).bind fun l49 => cond (Nat.beq l49.length 5) (cond (Nat.ble ((([] ++ ys46) : List (List AV)).length + ([[(l44.getD 0 .dead), (l44.getD 1 .dead), (l44.getD 2 .dead), (l44.getD 3 .dead), (l44.getD 4 .dead), (l49.getD 0 .dead), (l49.getD 1 .dead), (l49.getD 2 .dead), (l49.getD 3 .dead), (l49.getD 4 .dead), .lit (.string ByteArray.empty), .lit (.int .i64 0)]] : List (List AV)).length) maxApp) (onOut (F 18 [.sl 12 (([] ++ ys46) ++ [[(l44.getD 0 .dead), (l44.getD 1 .dead), (l44.getD 2 .dead), (l44.getD 3 .dead), (l44.getD 4 .dead), (l49.getD 0 .dead), (l49.getD 1 .dead), (l49.getD 2 .dead), (l49.getD 3 .dead), (l49.getD 4 .dead), .lit (.string ByteArray.empty), .lit (.int .i64 0)]])] h) (fun a50 h51 => (binAV E .add 3 x35 (.lit (.int .i64 1))).bind fun r52 => Lp3_0 F n h0 m h51 x28 x29 x30 x31 x32 (z33 ++ [[(l44.getD 0 .dead), (l44.getD 1 .dead), (l44.getD 2 .dead), (l44.getD 3 .dead), (l44.getD 4 .dead)]]) a50 r52) (fun _ _ _ => none) (fun _ _ => none)) none) none) none) none) ((binAV E .add 3 x35 (.lit (.int .i64 1))).bind fun r53 => Lp3_0 F n h0 m h x28 x29 x30 x31 x32 (z33 ++ [[(l44.getD 0 .dead), (l44.getD 1 .dead), (l44.getD 2 .dead), (l44.getD 3 .dead), (l44.getD 4 .dead)]]) (.lit (.bool false)) r53)) none) none) none) (onOut (F 19 [x28, .sl 5 z33, x30, .agg [x31, x32]] h) (fun a54 h55 => (tupOf a54).bind fun l56 => (l56[0]?).bind fun v57 => (tupOf a54).bind fun l58 => (l58[1]?).bind fun v59 => (lenA E 22 x28).bind fun n60 => (binAV E .neq 3 v59 (.lit (.int .i64 n60))).bind fun r61 => (boolOf r61).bind fun b62 => cond b62 (some (.ret (.lit (.bool false)), h55)) ((lenA E 22 v57).bind fun n63 => (lenA E 22 x28).bind fun n64 => (lenA E 29 (.sl 5 z33)).bind fun n65 => (binAV E .add 3 (.lit (.int .i64 n64)) (.lit (.int .i64 n65))).bind fun r66 => (binAV E .neq 3 (.lit (.int .i64 n63)) r66).bind fun r67 => (boolOf r67).bind fun b68 => cond b68 (some (.ret (.lit (.bool false)), h55)) ((boolOf x34).bind fun b69 => cond b69 (onOut (F 20 [v57] h55) (fun a70 h71 => (unAV .not a70).bind fun r72 => (boolOf r72).bind fun b73 => cond b73 (some (.ret (.lit (.bool false)), h71)) (Lp3_1 F n h0 n h71 x28 x30 x31 x32 z33 v57 v59 (.lit (.int .i64 0)))) (fun _ _ _ => none) (fun _ _ => none)) (Lp3_1 F n h0 n h55 x28 x30 x31 x32 z33 v57 v59 (.lit (.int .i64 0)))))) (fun _ _ _ => none) (fun _ _ => none))) (onOut (F 19 [x28, .sl 5 z33, x30, .agg [x31, x32]] h) (fun a144 h145 => (tupOf a144).bind fun l146 => (l146[0]?).bind fun v147 => (tupOf a144).bind fun l148 => (l148[1]?).bind fun v149 => (lenA E 22 x28).bind fun n150 => (binAV E .neq 3 v149 (.lit (.int .i64 n150))).bind fun r151 => (boolOf r151).bind fun b152 => cond b152 (some (.ret (.lit (.bool false)), h145)) ((lenA E 22 v147).bind fun n153 => (lenA E 22 x28).bind fun n154 => (lenA E 29 (.sl 5 z33)).bind fun n155 => (binAV E .add 3 (.lit (.int .i64 n154)) (.lit (.int .i64 n155))).bind fun r156 => (binAV E .neq 3 (.lit (.int .i64 n153)) r156).bind fun r157 => (boolOf r157).bind fun b158 => cond b158 (some (.ret (.lit (.bool false)), h145)) ((boolOf x34).bind fun b159 => cond b159 (onOut (F 20 [v147] h145) (fun a160 h161 => (unAV .not a160).bind fun r162 => (boolOf r162).bind fun b163 => cond b163 (some (.ret (.lit (.bool false)), h161)) (Lp3_1 F n h0 n h161 x28 x30 x31 x32 z33 v147 v149 (.lit (.int .i64 0)))) (fun _ _ _ => none) (fun _ _ => none)) (Lp3_1 F n h0 n h145 x28 x30 x31 x32 z33 v147 v149 (.lit (.int .i64 0)))))) (fun _ _ _ => none) (fun _ _ => none)) := by kernel_rfl
theorem nf3 (a0_ : AV) (a1_ : AV) (a2_ : AV) (a3_ : AV) : runF E 3 Try.f3 F n [a0_, a1_, a2_, a3_] h0 = (aggOf a3_).bind fun l1 => cond (Nat.beq l1.length 2) (onOut (F 15 [a0_] h0) (fun a2 h3 => (binAV E .gtr 3 a2 (.lit (.int .i64 100))).bind fun r4 => (boolOf r4).bind fun b5 => cond b5 (onOut (F 17 [] h3) (fun a6 h7 => some (.ret a6, h7)) (fun _ _ _ => none) (fun _ _ => none)) (onOut (F 16 [a1_] h3) (fun a8 h9 => (binAV E .gtr 3 a8 (.lit (.int .i64 100))).bind fun r10 => (boolOf r10).bind fun b11 => cond b11 (onOut (F 17 [] h9) (fun a12 h13 => some (.ret a12, h13)) (fun _ _ _ => none) (fun _ _ => none)) (onOut (F 16 [a2_] h9) (fun a14 h15 => (binAV E .gtr 3 a14 (.lit (.int .i64 100))).bind fun r16 => (boolOf r16).bind fun b17 => cond b17 (onOut (F 17 [] h15) (fun a18 h19 => some (.ret a18, h19)) (fun _ _ _ => none) (fun _ _ => none)) ((lenA E 23 a1_).bind fun n20 => (lenA E 23 a2_).bind fun n21 => (binAV E .neq 3 (.lit (.int .i64 n20)) (.lit (.int .i64 n21))).bind fun r22 => (boolOf r22).bind fun b23 => cond b23 (onOut (F 17 [] h15) (fun a24 h25 => some (.ret a24, h25)) (fun _ _ _ => none) (fun _ _ => none)) (onOut (F 18 [a0_] h15) (fun a26 h27 => Lp3_0 F n h0 n h27 a0_ a1_ a2_ (l1.getD 0 .dead) (l1.getD 1 .dead) [] a26 (.lit (.int .i64 0))) (fun _ _ _ => none) (fun _ _ => none)))) (fun _ _ _ => none) (fun _ _ => none))) (fun _ _ _ => none) (fun _ _ => none))) (fun _ _ _ => none) (fun _ _ => none)) none := by kernel_rfl
-- 4 limbeck/limbecklaw28.SealFull
theorem nf4 (a0_ : AV) (a1_ : AV) : runF E 4 Try.f4 F n [a0_, a1_] h0 = (aggOf a1_).bind fun l1 => cond (Nat.beq l1.length 5) (onOut (F 15 [a0_] h0) (fun a2 h3 => (binAV E .gtr 3 a2 (.lit (.int .i64 100))).bind fun r4 => (boolOf r4).bind fun b5 => cond b5 (onOut (F 17 [] h3) (fun a6 h7 => some (.ret a6, h7)) (fun _ _ _ => none) (fun _ _ => none)) (onOut (F 24 [.agg [(l1.getD 0 .dead), (l1.getD 1 .dead), (l1.getD 2 .dead), (l1.getD 3 .dead), (l1.getD 4 .dead)]] h3) (fun a8 h9 => (binAV E .gtr 3 a8 (.lit (.int .i64 200))).bind fun r10 => (boolOf r10).bind fun b11 => cond b11 (onOut (F 17 [] h9) (fun a12 h13 => some (.ret a12, h13)) (fun _ _ _ => none) (fun _ _ => none)) (onOut (F 18 [a0_] h9) (fun a14 h15 => (unAV .not a14).bind fun r16 => (boolOf r16).bind fun b17 => cond b17 (onOut (F 17 [] h15) (fun a18 h19 => some (.ret a18, h19)) (fun _ _ _ => none) (fun _ _ => none)) (onOut (F 25 [.agg [(l1.getD 0 .dead), (l1.getD 1 .dead), (l1.getD 2 .dead), (l1.getD 3 .dead), (l1.getD 4 .dead)]] h15) (fun a20 h21 => (unAV .not a20).bind fun r22 => (boolOf r22).bind fun b23 => cond b23 (onOut (F 17 [] h21) (fun a24 h25 => some (.ret a24, h25)) (fun _ _ _ => none) (fun _ _ => none)) (onOut (F 26 [a0_, .agg [(l1.getD 0 .dead), (l1.getD 1 .dead), (l1.getD 2 .dead), (l1.getD 3 .dead), (l1.getD 4 .dead)]] h21) (fun a26 h27 => (tupOf a26).bind fun l28 => (l28[0]?).bind fun v29 => (tupOf a26).bind fun l30 => (l30[1]?).bind fun v31 => (aggOf v29).bind fun l32 => cond (Nat.beq l32.length 5) ((boolOf v31).bind fun b33 => cond b33 (onOut (F 25 [.agg [(l32.getD 0 .dead), (l32.getD 1 .dead), (l32.getD 2 .dead), (l32.getD 3 .dead), (l32.getD 4 .dead)]] h27) (fun a34 h35 => (unAV .not a34).bind fun r36 => (boolOf r36).bind fun b37 => cond b37 (some (.ret (.lit (.bool false)), h35)) (onOut (F 27 [.agg [(l32.getD 0 .dead), (l32.getD 1 .dead), (l32.getD 2 .dead), (l32.getD 3 .dead), (l32.getD 4 .dead)], .lit (.int .i64 9)] h35) (fun a38 h39 => (boolOf a38).bind fun b40 => cond b40 (some (.ret (.lit (.bool false)), h39)) (onOut (F 28 [.agg [(l32.getD 0 .dead), (l32.getD 1 .dead), (l32.getD 2 .dead), (l32.getD 3 .dead), (l32.getD 4 .dead)]] h39) (fun a41 h42 => (unAV .not a41).bind fun r43 => (boolOf r43).bind fun b44 => cond b44 (some (.ret (.lit (.bool false)), h42)) (onOut (F 27 [.agg [(l1.getD 0 .dead), (l1.getD 1 .dead), (l1.getD 2 .dead), (l1.getD 3 .dead), (l1.getD 4 .dead)], .lit (.int .i64 9)] h42) (fun a45 h46 => (unAV .not a45).bind fun r47 => (boolOf r47).bind fun b48 => cond b48 (onOut (F 28 [.agg [(l1.getD 0 .dead), (l1.getD 1 .dead), (l1.getD 2 .dead), (l1.getD 3 .dead), (l1.getD 4 .dead)]] h46) (fun a49 h50 => (boolOf a49).bind fun b51 => cond b51 ((unAV .not v31).bind fun r52 => (boolOf r52).bind fun b53 => cond b53 (some (.ret (.lit (.bool false)), h50)) (onOut (F 23 [.agg [(l1.getD 0 .dead), (l1.getD 1 .dead), (l1.getD 2 .dead), (l1.getD 3 .dead), (l1.getD 4 .dead)], .agg [(l32.getD 0 .dead), (l32.getD 1 .dead), (l32.getD 2 .dead), (l32.getD 3 .dead), (l32.getD 4 .dead)]] h50) (fun a54 h55 => (unAV .not a54).bind fun r56 => (boolOf r56).bind fun b57 => cond b57 (some (.ret (.lit (.bool false)), h55)) (onOut (F 17 [] h55) (fun a58 h59 => some (.ret a58, h59)) (fun _ _ _ => none) (fun _ _ => none))) (fun _ _ _ => none) (fun _ _ => none))) (onOut (F 17 [] h50) (fun a60 h61 => some (.ret a60, h61)) (fun _ _ _ => none) (fun _ _ => none))) (fun _ _ _ => none) (fun _ _ => none)) (onOut (F 17 [] h46) (fun a62 h63 => some (.ret a62, h63)) (fun _ _ _ => none) (fun _ _ => none))) (fun _ _ _ => none) (fun _ _ => none))) (fun _ _ _ => none) (fun _ _ => none))) (fun _ _ _ => none) (fun _ _ => none))) (fun _ _ _ => none) (fun _ _ => none)) (onOut (F 27 [.agg [(l1.getD 0 .dead), (l1.getD 1 .dead), (l1.getD 2 .dead), (l1.getD 3 .dead), (l1.getD 4 .dead)], .lit (.int .i64 9)] h27) (fun a64 h65 => (unAV .not a64).bind fun r66 => (boolOf r66).bind fun b67 => cond b67 (onOut (F 28 [.agg [(l1.getD 0 .dead), (l1.getD 1 .dead), (l1.getD 2 .dead), (l1.getD 3 .dead), (l1.getD 4 .dead)]] h65) (fun a68 h69 => (boolOf a68).bind fun b70 => cond b70 ((unAV .not v31).bind fun r71 => (boolOf r71).bind fun b72 => cond b72 (some (.ret (.lit (.bool false)), h69)) (onOut (F 23 [.agg [(l1.getD 0 .dead), (l1.getD 1 .dead), (l1.getD 2 .dead), (l1.getD 3 .dead), (l1.getD 4 .dead)], .agg [(l32.getD 0 .dead), (l32.getD 1 .dead), (l32.getD 2 .dead), (l32.getD 3 .dead), (l32.getD 4 .dead)]] h69) (fun a73 h74 => (unAV .not a73).bind fun r75 => (boolOf r75).bind fun b76 => cond b76 (some (.ret (.lit (.bool false)), h74)) (onOut (F 17 [] h74) (fun a77 h78 => some (.ret a77, h78)) (fun _ _ _ => none) (fun _ _ => none))) (fun _ _ _ => none) (fun _ _ => none))) (onOut (F 17 [] h69) (fun a79 h80 => some (.ret a79, h80)) (fun _ _ _ => none) (fun _ _ => none))) (fun _ _ _ => none) (fun _ _ => none)) (onOut (F 17 [] h65) (fun a81 h82 => some (.ret a81, h82)) (fun _ _ _ => none) (fun _ _ => none))) (fun _ _ _ => none) (fun _ _ => none))) none) (fun _ _ _ => none) (fun _ _ => none))) (fun _ _ _ => none) (fun _ _ => none))) (fun _ _ _ => none) (fun _ _ => none))) (fun _ _ _ => none) (fun _ _ => none))) (fun _ _ _ => none) (fun _ _ => none)) none := by kernel_rfl
-- 5 limbeck/limbecklaw28.SealTells
noncomputable def Lp5_0 (m : Nat) (h : Heap) (x32 : AV) (x33 : AV) (x34 : AV) (x35 : AV) (x36 : AV) (x37 : AV) (x38 : AV) (x39 : AV) (x40 : AV) (x41 : AV) (x42 : AV) (z43 : List (List AV)) (z44 : List (List AV)) (x45 : AV) : R := loopAt E 5 Try.f5 F n h0 [.r, .r, .r, .r, .l, .r, .b] m { s := lkS [(0, .c (.v x32)), (1, .c (.v x33)), (2, .c (.v x34)), (4, .c (.v x35)), (9, .loc [.v x36, .v x37]), (11, .loc [.v x38, .v x39, .v x40, .v x41, .v x42]), (13, .c (.own 5 z43)), (14, .c (.own 1 z44)), (15, .c (.v x45))], h := h }
theorem Lp5_0_zero (h : Heap) (x32 : AV) (x33 : AV) (x34 : AV) (x35 : AV) (x36 : AV) (x37 : AV) (x38 : AV) (x39 : AV) (x40 : AV) (x41 : AV) (x42 : AV) (z43 : List (List AV)) (z44 : List (List AV)) (x45 : AV) : Lp5_0 F n h0 0 h x32 x33 x34 x35 x36 x37 x38 x39 x40 x41 x42 z43 z44 x45 = none := by kernel_rfl
theorem Lp5_0_succ (m : Nat) (h : Heap) (x32 : AV) (x33 : AV) (x34 : AV) (x35 : AV) (x36 : AV) (x37 : AV) (x38 : AV) (x39 : AV) (x40 : AV) (x41 : AV) (x42 : AV) (z43 : List (List AV)) (z44 : List (List AV)) (x45 : AV) : Lp5_0 F n h0 (m + 1) h x32 x33 x34 x35 x36 x37 x38 x39 x40 x41 x42 z43 z44 x45 = (lenA E 23 x33).bind fun n46 => (binAV E .lss 3 x45 (.lit (.int .i64 n46))).bind fun r47 => (boolOf r47).bind fun b48 => cond b48 ((indexA 6 x33 x45).bind fun e49 => cond (Nat.ble 1 e49.length) ((partA true 5 0 (e49.drop 1)).bind fun v50 => (aggOf v50).bind fun l51 => cond (Nat.beq l51.length 5) (cond (Nat.ble (z43.length + ([[(l51.getD 0 .dead), (l51.getD 1 .dead), (l51.getD 2 .dead), (l51.getD 3 .dead), (l51.getD 4 .dead)]] : List (List AV)).length) maxApp) ((indexA 6 x33 x45).bind fun e52 => cond (Nat.ble 0 e52.length) ((partA false 1 0 (e52.drop 0)).bind fun v53 => cond (AV.one v53) (cond (Nat.ble (z44.length + ([[v53]] : List (List AV)).length) maxApp) ((binAV E .add 3 x45 (.lit (.int .i64 1))).bind fun r54 => Lp5_0 F n h0 m h x32 x33 x34 x35 x36 x37 x38 x39 x40 x41 x42 (z43 ++ [[(l51.getD 0 .dead), (l51.getD 1 .dead), (l51.getD 2 .dead), (l51.getD 3 .dead), (l51.getD 4 .dead)]]) (z44 ++ [[v53]]) r54) none) none) none) none) none) none) (onOut (F 19 [x32, .sl 5 z43, x34, .agg [x36, x37]] h) (fun a55 h56 => (tupOf a55).bind fun l57 => (l57[0]?).bind fun v58 => (tupOf a55).bind fun l59 => (l59[1]?).bind fun v60 => onOut (F 29 [x32, .sl 5 z43, x34, .agg [x36, x37]] h56) (fun a61 h62 => (tupOf a61).bind fun l63 => (l63[0]?).bind fun v64 => (tupOf a61).bind fun l65 => (l65[1]?).bind fun v66 => onOut (F 21 [x32, x35] h62) (fun a67 h68 => (tupOf a67).bind fun l69 => (l69[0]?).bind fun v70 => (tupOf a67).bind fun l71 => (l71[1]?).bind fun v72 => (aggOf v70).bind fun l73 => cond (Nat.beq l73.length 12) (onOut (F 30 [x32, x35] h68) (fun a74 h75 => (tupOf a74).bind fun l76 => (l76[0]?).bind fun v77 => (tupOf a74).bind fun l78 => (l78[1]?).bind fun v79 => (aggOf v77).bind fun l80 => cond (Nat.beq l80.length 12) (onOut (F 26 [x32, .agg [x38, x39, x40, x41, x42]] h75) (fun a81 h82 => (tupOf a81).bind fun l83 => (l83[0]?).bind fun v84 => (tupOf a81).bind fun l85 => (l85[1]?).bind fun v86 => (aggOf v84).bind fun l87 => cond (Nat.beq l87.length 5) (onOut (F 31 [x32, .agg [x38, x39, x40, x41, x42]] h82) (fun a88 h89 => (tupOf a88).bind fun l90 => (l90[0]?).bind fun v91 => (tupOf a88).bind fun l92 => (l92[1]?).bind fun v93 => (aggOf v91).bind fun l94 => cond (Nat.beq l94.length 5) (onOut (F 22 [v58, v64] h89) (fun a95 h96 => (unAV .not a95).bind fun r97 => (boolOf r97).bind fun b98 => cond b98 (some (.ret (.lit (.bool false)), h96)) ((binAV E .neq 3 v60 v66).bind fun r99 => (boolOf r99).bind fun b100 => cond b100 (some (.ret (.lit (.bool false)), h96)) (onOut (F 22 [.sl 12 [[(l73.getD 0 .dead), (l73.getD 1 .dead), (l73.getD 2 .dead), (l73.getD 3 .dead), (l73.getD 4 .dead), (l73.getD 5 .dead), (l73.getD 6 .dead), (l73.getD 7 .dead), (l73.getD 8 .dead), (l73.getD 9 .dead), (l73.getD 10 .dead), (l73.getD 11 .dead)]], .sl 12 [[(l80.getD 0 .dead), (l80.getD 1 .dead), (l80.getD 2 .dead), (l80.getD 3 .dead), (l80.getD 4 .dead), (l80.getD 5 .dead), (l80.getD 6 .dead), (l80.getD 7 .dead), (l80.getD 8 .dead), (l80.getD 9 .dead), (l80.getD 10 .dead), (l80.getD 11 .dead)]]] h96) (fun a101 h102 => (unAV .not a101).bind fun r103 => (boolOf r103).bind fun b104 => cond b104 (some (.ret (.lit (.bool false)), h102)) ((binAV E .neq 4 v72 v79).bind fun r105 => (boolOf r105).bind fun b106 => cond b106 (some (.ret (.lit (.bool false)), h102)) (onOut (F 23 [.agg [(l87.getD 0 .dead), (l87.getD 1 .dead), (l87.getD 2 .dead), (l87.getD 3 .dead), (l87.getD 4 .dead)], .agg [(l94.getD 0 .dead), (l94.getD 1 .dead), (l94.getD 2 .dead), (l94.getD 3 .dead), (l94.getD 4 .dead)]] h102) (fun a107 h108 => (unAV .not a107).bind fun r109 => (boolOf r109).bind fun b110 => cond b110 (some (.ret (.lit (.bool false)), h108)) ((binAV E .neq 4 v86 v93).bind fun r111 => (boolOf r111).bind fun b112 => cond b112 (some (.ret (.lit (.bool false)), h108)) (onOut (F 20 [x32] h108) (fun a113 h114 => onOut (F 18 [x32] h114) (fun a115 h116 => (binAV E .eql 4 a113 a115).bind fun r117 => (boolOf r117).bind fun b118 => cond b118 (onOut (F 32 [x32, x35] h116) (fun a119 h120 => onOut (F 33 [x32, x35] h120) (fun a121 h122 => (binAV E .eql 4 a119 a121).bind fun r123 => (boolOf r123).bind fun b124 => cond b124 (onOut (F 34 [.agg [x38, x39, x40, x41, x42], .sl 1 z44, x35] h122) (fun a125 h126 => onOut (F 35 [.agg [x38, x39, x40, x41, x42], .sl 1 z44, x35] h126) (fun a127 h128 => onOut (F 23 [a125, a127] h128) (fun a129 h130 => (boolOf a129).bind fun b131 => cond b131 (onOut (F 17 [] h130) (fun a132 h133 => some (.ret a132, h133)) (fun _ _ _ => none) (fun _ _ => none)) (some (.ret (.lit (.bool false)), h130))) (fun _ _ _ => none) (fun _ _ => none)) (fun _ _ _ => none) (fun _ _ => none)) (fun _ _ _ => none) (fun _ _ => none)) (some (.ret (.lit (.bool false)), h122))) (fun _ _ _ => none) (fun _ _ => none)) (fun _ _ _ => none) (fun _ _ => none)) (some (.ret (.lit (.bool false)), h116))) (fun _ _ _ => none) (fun _ _ => none)) (fun _ _ _ => none) (fun _ _ => none)))) (fun _ _ _ => none) (fun _ _ => none)))) (fun _ _ _ => none) (fun _ _ => none)))) (fun _ _ _ => none) (fun _ _ => none)) none) (fun _ _ _ => none) (fun _ _ => none)) none) (fun _ _ _ => none) (fun _ _ => none)) none) (fun _ _ _ => none) (fun _ _ => none)) none) (fun _ _ _ => none) (fun _ _ => none)) (fun _ _ _ => none) (fun _ _ => none)) (fun _ _ _ => none) (fun _ _ => none)) := by kernel_rfl
theorem nf5 (a0_ : AV) (a1_ : AV) (a2_ : AV) (a3_ : AV) (a4_ : AV) (a5_ : AV) : runF E 5 Try.f5 F n [a0_, a1_, a2_, a3_, a4_, a5_] h0 = (aggOf a3_).bind fun l1 => cond (Nat.beq l1.length 2) ((aggOf a5_).bind fun l2 => cond (Nat.beq l2.length 5) (onOut (F 15 [a0_] h0) (fun a3 h4 => (binAV E .gtr 3 a3 (.lit (.int .i64 100))).bind fun r5 => (boolOf r5).bind fun b6 => cond b6 (onOut (F 17 [] h4) (fun a7 h8 => some (.ret a7, h8)) (fun _ _ _ => none) (fun _ _ => none)) (onOut (F 16 [a1_] h4) (fun a9 h10 => (binAV E .gtr 3 a9 (.lit (.int .i64 100))).bind fun r11 => (boolOf r11).bind fun b12 => cond b12 (onOut (F 17 [] h10) (fun a13 h14 => some (.ret a13, h14)) (fun _ _ _ => none) (fun _ _ => none)) (onOut (F 16 [a2_] h10) (fun a15 h16 => (binAV E .gtr 3 a15 (.lit (.int .i64 100))).bind fun r17 => (boolOf r17).bind fun b18 => cond b18 (onOut (F 17 [] h16) (fun a19 h20 => some (.ret a19, h20)) (fun _ _ _ => none) (fun _ _ => none)) ((lenA E 9 (l1.getD 0 .dead)).bind fun n21 => (binAV E .gtr 3 (.lit (.int .i64 n21)) (.lit (.int .i64 100))).bind fun r22 => (boolOf r22).bind fun b23 => cond b23 (onOut (F 17 [] h16) (fun a24 h25 => some (.ret a24, h25)) (fun _ _ _ => none) (fun _ _ => none)) (onOut (F 24 [.agg [(l2.getD 0 .dead), (l2.getD 1 .dead), (l2.getD 2 .dead), (l2.getD 3 .dead), (l2.getD 4 .dead)]] h16) (fun a26 h27 => (binAV E .gtr 3 a26 (.lit (.int .i64 200))).bind fun r28 => (boolOf r28).bind fun b29 => cond b29 (onOut (F 17 [] h27) (fun a30 h31 => some (.ret a30, h31)) (fun _ _ _ => none) (fun _ _ => none)) (Lp5_0 F n h0 n h27 a0_ a1_ a2_ a4_ (l1.getD 0 .dead) (l1.getD 1 .dead) (l2.getD 0 .dead) (l2.getD 1 .dead) (l2.getD 2 .dead) (l2.getD 3 .dead) (l2.getD 4 .dead) [] [] (.lit (.int .i64 0)))) (fun _ _ _ => none) (fun _ _ => none)))) (fun _ _ _ => none) (fun _ _ => none))) (fun _ _ _ => none) (fun _ _ => none))) (fun _ _ _ => none) (fun _ _ => none)) none) none := by kernel_rfl
-- 29 limbeck/limbeckref28.Add
noncomputable def Lp29_0 (m : Nat) (h : Heap) (x3 : AV) (x4 : AV) (x5 : AV) (x6 : AV) (x7 : AV) (z8 : List (List AV)) (x9 : AV) : R := loopAt E 29 Try.f29 F n h0 [.r, .r, .l, .r, .b] m { s := lkS [(0, .c (.v x3)), (1, .c (.v x4)), (2, .c (.v x5)), (7, .loc [.v x6, .v x7]), (10, .c (.own 12 z8)), (11, .c (.v x9))], h := h }
theorem Lp29_0_zero (h : Heap) (x3 : AV) (x4 : AV) (x5 : AV) (x6 : AV) (x7 : AV) (z8 : List (List AV)) (x9 : AV) : Lp29_0 F n h0 0 h x3 x4 x5 x6 x7 z8 x9 = none := by kernel_rfl
theorem Lp29_0_succ (m : Nat) (h : Heap) (x3 : AV) (x4 : AV) (x5 : AV) (x6 : AV) (x7 : AV) (z8 : List (List AV)) (x9 : AV) : Lp29_0 F n h0 (m + 1) h x3 x4 x5 x6 x7 z8 x9 = (lenA E 29 x4).bind fun n10 => (binAV E .lss 3 x9 (.lit (.int .i64 n10))).bind fun r11 => (boolOf r11).bind fun b12 => cond b12 ((lenA E 23 x5).bind fun n13 => (binAV E .lss 3 x9 (.lit (.int .i64 n13))).bind fun r14 => (boolOf r14).bind fun b15 => cond b15 ((indexA 5 x4 x9).bind fun e16 => (partA true 5 0 e16).bind fun v17 => (indexA 6 x5 x9).bind fun e18 => cond (Nat.ble 1 e18.length) ((partA true 5 0 (e18.drop 1)).bind fun v19 => (aggOf v17).bind fun l20 => cond (Nat.beq l20.length 5) ((aggOf v19).bind fun l21 => cond (Nat.beq l21.length 5) (cond (Nat.ble (z8.length + ([[(l20.getD 0 .dead), (l20.getD 1 .dead), (l20.getD 2 .dead), (l20.getD 3 .dead), (l20.getD 4 .dead), (l21.getD 0 .dead), (l21.getD 1 .dead), (l21.getD 2 .dead), (l21.getD 3 .dead), (l21.getD 4 .dead), x6, x7]] : List (List AV)).length) maxApp) ((binAV E .add 3 x9 (.lit (.int .i64 1))).bind fun r22 => Lp29_0 F n h0 m h x3 x4 x5 x6 x7 (z8 ++ [[(l20.getD 0 .dead), (l20.getD 1 .dead), (l20.getD 2 .dead), (l20.getD 3 .dead), (l20.getD 4 .dead), (l21.getD 0 .dead), (l21.getD 1 .dead), (l21.getD 2 .dead), (l21.getD 3 .dead), (l21.getD 4 .dead), x6, x7]]) r22) none) none) none) none) ((lenA E 22 x3).bind fun n23 => some (.ret (.tup [.sl 12 z8, .lit (.int .i64 n23)]), h))) ((lenA E 22 x3).bind fun n24 => some (.ret (.tup [.sl 12 z8, .lit (.int .i64 n24)]), h)) := by kernel_rfl
theorem nf29 (a0_ : AV) (a1_ : AV) (a2_ : AV) (a3_ : AV) : runF E 29 Try.f29 F n [a0_, a1_, a2_, a3_] h0 = (aggOf a3_).bind fun l1 => cond (Nat.beq l1.length 2) ((slOf 12 a0_).bind fun ys2 => cond (Nat.ble (([] : List (List AV)).length + ys2.length) maxApp) (Lp29_0 F n h0 n h0 a0_ a1_ a2_ (l1.getD 0 .dead) (l1.getD 1 .dead) ([] ++ ys2) (.lit (.int .i64 0))) none) none := by kernel_rfl
-- 30 limbeck/limbeckref28.Find
theorem nf30 (a0_ : AV) (a1_ : AV) : runF E 30 Try.f30 F n [a0_, a1_] h0 = (binAV E .lss 3 a1_ (.lit (.int .i64 0))).bind fun r1 => (boolOf r1).bind fun b2 => cond b2 (some (.ret (.tup [.agg [.lit (.int .i64 0), .lit (.int .i64 0), .lit (.string ByteArray.empty), .sl 1 [], .sl 5 [], .lit (.int .i64 0), .lit (.int .i64 0), .lit (.string ByteArray.empty), .sl 1 [], .sl 5 [], .lit (.string ByteArray.empty), .lit (.int .i64 0)], .lit (.bool false)]), h0)) ((lenA E 22 a0_).bind fun n3 => (binAV E .geq 3 a1_ (.lit (.int .i64 n3))).bind fun r4 => (boolOf r4).bind fun b5 => cond b5 (some (.ret (.tup [.agg [.lit (.int .i64 0), .lit (.int .i64 0), .lit (.string ByteArray.empty), .sl 1 [], .sl 5 [], .lit (.int .i64 0), .lit (.int .i64 0), .lit (.string ByteArray.empty), .sl 1 [], .sl 5 [], .lit (.string ByteArray.empty), .lit (.int .i64 0)], .lit (.bool false)]), h0)) ((indexA 12 a0_ a1_).bind fun e6 => (partA true 12 0 e6).bind fun v7 => (aggOf v7).bind fun l8 => cond (Nat.beq l8.length 12) (some (.ret (.tup [.agg [(l8.getD 0 .dead), (l8.getD 1 .dead), (l8.getD 2 .dead), (l8.getD 3 .dead), (l8.getD 4 .dead), (l8.getD 5 .dead), (l8.getD 6 .dead), (l8.getD 7 .dead), (l8.getD 8 .dead), (l8.getD 9 .dead), (l8.getD 10 .dead), (l8.getD 11 .dead)], .lit (.bool true)]), h0)) none)) := by kernel_rfl
-- 31 limbeck/limbeckref28.Full
theorem nf31 (a0_ : AV) (a1_ : AV) : runF E 31 Try.f31 F n [a0_, a1_] h0 = (aggOf a1_).bind fun l1 => cond (Nat.beq l1.length 5) ((lenA E 22 a0_).bind fun n2 => onOut (F 84 [a0_, .agg [(l1.getD 0 .dead), (l1.getD 1 .dead), (l1.getD 2 .dead), (l1.getD 3 .dead), (l1.getD 4 .dead)], .lit (.int .i64 n2), .lit (.int .i64 300)] h0) (fun a3 h4 => (tupOf a3).bind fun l5 => (l5[0]?).bind fun v6 => (tupOf a3).bind fun l7 => (l7[1]?).bind fun v8 => (tupOf a3).bind fun l9 => (l9[2]?).bind fun v10 => (aggOf v6).bind fun l11 => cond (Nat.beq l11.length 5) ((unAV .not v10).bind fun r12 => (boolOf r12).bind fun b13 => cond b13 (some (.ret (.tup [.agg [.lit (.int .i64 0), .lit (.int .i64 0), .lit (.string ByteArray.empty), .sl 1 [], .sl 5 []], .lit (.bool false)]), h4)) (some (.ret (.tup [.agg [(l11.getD 0 .dead), (l11.getD 1 .dead), (l11.getD 2 .dead), (l11.getD 3 .dead), (l11.getD 4 .dead)], .lit (.bool true)]), h4))) none) (fun _ _ _ => none) (fun _ _ => none)) none := by kernel_rfl
-- 33 limbeck/limbeckref28.Opaque
theorem nf33 (a0_ : AV) (a1_ : AV) : runF E 33 Try.f33 F n [a0_, a1_] h0 = onOut (F 30 [a0_, a1_] h0) (fun a1 h2 => (tupOf a1).bind fun l3 => (l3[0]?).bind fun v4 => (tupOf a1).bind fun l5 => (l5[1]?).bind fun v6 => (aggOf v4).bind fun l7 => cond (Nat.beq l7.length 12) ((boolOf v6).bind fun b8 => cond b8 (onOut (F 69 [] h2) (fun a9 h10 => onOut (F 23 [.agg [(l7.getD 5 .dead), (l7.getD 6 .dead), (l7.getD 7 .dead), (l7.getD 8 .dead), (l7.getD 9 .dead)], a9] h10) (fun a11 h12 => some (.ret a11, h12)) (fun _ _ _ => none) (fun _ _ => none)) (fun _ _ _ => none) (fun _ _ => none)) (some (.ret (.lit (.bool false)), h2))) none) (fun _ _ _ => none) (fun _ _ => none) := by kernel_rfl
-- 34 limbeck/seal.Close
theorem nf34 (a0_ : AV) (a1_ : AV) (a2_ : AV) : runF E 34 Try.f34 F n [a0_, a1_, a2_] h0 = (aggOf a0_).bind fun l1 => cond (Nat.beq l1.length 5) (onOut (F 86 [.agg [(l1.getD 0 .dead), (l1.getD 1 .dead), (l1.getD 2 .dead), (l1.getD 3 .dead), (l1.getD 4 .dead)], a1_, a2_] h0) (fun a2 h3 => (aggOf a2).bind fun l4 => cond (Nat.beq l4.length 5) (some (.ret (.agg [(l4.getD 0 .dead), (l4.getD 1 .dead), (l4.getD 2 .dead), (l4.getD 3 .dead), (l4.getD 4 .dead)]), h3)) none) (fun _ _ _ => none) (fun _ _ => none)) none := by kernel_rfl
-- 35 limbeck/limbeckref28.Close
theorem nf35 (a0_ : AV) (a1_ : AV) (a2_ : AV) : runF E 35 Try.f35 F n [a0_, a1_, a2_] h0 = (aggOf a0_).bind fun l1 => cond (Nat.beq l1.length 5) (onOut (F 87 [.agg [(l1.getD 0 .dead), (l1.getD 1 .dead), (l1.getD 2 .dead), (l1.getD 3 .dead), (l1.getD 4 .dead)], a1_, a2_] h0) (fun a2 h3 => (aggOf a2).bind fun l4 => cond (Nat.beq l4.length 5) (some (.ret (.agg [(l4.getD 0 .dead), (l4.getD 1 .dead), (l4.getD 2 .dead), (l4.getD 3 .dead), (l4.getD 4 .dead)]), h3)) none) (fun _ _ _ => none) (fun _ _ => none)) none := by kernel_rfl
-- 84 limbeck/limbeckref28.full
noncomputable def Lp84_0 (m : Nat) (h : Heap) (x23 : AV) (x24 : AV) (x25 : AV) (x26 : AV) (x27 : AV) (x28 : AV) (x29 : AV) (x30 : AV) (x31 : AV) (x32 : AV) (z33 : List (List AV)) (z34 : List (List AV)) (x35 : AV) (x36 : AV) (x37 : AV) (x38 : AV) (x39 : AV) (z40 : List (List AV)) (x41 : AV) : R := loopAt E 84 Try.f84 F n h0 [.r, .r, .r, .r, .r, .l, .r, .b] m { s := lkS [(0, .c (.v x23)), (2, .c (.v x24)), (5, .loc [.v x25, .v x26, .v x27, .v x28, .v x29]), (8, .loc [.v x30, .v x31, .v x32, .own 1 z33, .own 5 z34]), (11, .c (.v x35)), (12, .loc [.v x36, .v x37, .v x38, .v x39, .own 5 z40]), (13, .c (.v x41))], h := h }
theorem Lp84_0_zero (h : Heap) (x23 : AV) (x24 : AV) (x25 : AV) (x26 : AV) (x27 : AV) (x28 : AV) (x29 : AV) (x30 : AV) (x31 : AV) (x32 : AV) (z33 : List (List AV)) (z34 : List (List AV)) (x35 : AV) (x36 : AV) (x37 : AV) (x38 : AV) (x39 : AV) (z40 : List (List AV)) (x41 : AV) : Lp84_0 F n h0 0 h x23 x24 x25 x26 x27 x28 x29 x30 x31 x32 z33 z34 x35 x36 x37 x38 x39 z40 x41 = none := by kernel_rfl
theorem Lp84_0_succ (m : Nat) (h : Heap) (x23 : AV) (x24 : AV) (x25 : AV) (x26 : AV) (x27 : AV) (x28 : AV) (x29 : AV) (x30 : AV) (x31 : AV) (x32 : AV) (z33 : List (List AV)) (z34 : List (List AV)) (x35 : AV) (x36 : AV) (x37 : AV) (x38 : AV) (x39 : AV) (z40 : List (List AV)) (x41 : AV) : Lp84_0 F n h0 (m + 1) h x23 x24 x25 x26 x27 x28 x29 x30 x31 x32 z33 z34 x35 x36 x37 x38 x39 z40 x41 = (lenA E 29 x29).bind fun n42 => (binAV E .lss 3 x41 (.lit (.int .i64 n42))).bind fun r43 => (boolOf r43).bind fun b44 => cond b44 ((indexA 5 x29 x41).bind fun e45 => (partA true 5 0 e45).bind fun v46 => onOut (F 84 [x23, v46, x24, x35] h) (fun a47 h48 => (tupOf a47).bind fun l49 => (l49[0]?).bind fun v50 => (tupOf a47).bind fun l51 => (l51[1]?).bind fun v52 => (tupOf a47).bind fun l53 => (l53[2]?).bind fun v54 => (aggOf v50).bind fun l55 => cond (Nat.beq l55.length 5) ((unAV .not v54).bind fun r56 => (boolOf r56).bind fun b57 => cond b57 (some (.ret (.tup [.agg [.lit (.int .i64 0), .lit (.int .i64 0), .lit (.string ByteArray.empty), .sl 1 [], .sl 5 []], .lit (.int .i64 0), .lit (.bool false)]), h48)) ((binAV E .lss 3 v52 (.lit (.int .i64 0))).bind fun r58 => (boolOf r58).bind fun b59 => cond b59 (some (.ret (.tup [.agg [.lit (.int .i64 0), .lit (.int .i64 0), .lit (.string ByteArray.empty), .sl 1 [], .sl 5 []], .lit (.int .i64 0), .lit (.bool false)]), h48)) (cond (Nat.ble (z40.length + ([[(l55.getD 0 .dead), (l55.getD 1 .dead), (l55.getD 2 .dead), (l55.getD 3 .dead), (l55.getD 4 .dead)]] : List (List AV)).length) maxApp) ((binAV E .add 3 x41 (.lit (.int .i64 1))).bind fun r60 => Lp84_0 F n h0 m h48 x23 x24 x25 x26 x27 x28 x29 x30 x31 x32 z33 z34 v52 x36 x37 x38 x39 (z40 ++ [[(l55.getD 0 .dead), (l55.getD 1 .dead), (l55.getD 2 .dead), (l55.getD 3 .dead), (l55.getD 4 .dead)]]) r60) none))) none) (fun _ _ _ => none) (fun _ _ => none)) ((binAV E .geq 3 x35 (.lit (.int .i64 0))).bind fun r61 => some (.ret (.tup [.agg [x36, x37, x38, x39, .sl 5 z40], x35, r61]), h)) := by kernel_rfl
theorem nf84 (a0_ : AV) (a1_ : AV) (a2_ : AV) (a3_ : AV) : runF E 84 Try.f84 F n [a0_, a1_, a2_, a3_] h0 = (aggOf a1_).bind fun l1 => cond (Nat.beq l1.length 5) ((binAV E .eql 3 (l1.getD 0 .dead) (.lit (.int .i64 9))).bind fun r2 => (boolOf r2).bind fun b3 => cond b3 ((binAV E .lss 3 (l1.getD 1 .dead) (.lit (.int .i64 0))).bind fun r4 => (boolOf r4).bind fun b5 => cond b5 (some (.ret (.tup [.agg [.lit (.int .i64 0), .lit (.int .i64 0), .lit (.string ByteArray.empty), .sl 1 [], .sl 5 []], .lit (.int .i64 0), .lit (.bool false)]), h0)) ((binAV E .geq 3 (l1.getD 1 .dead) a2_).bind fun r6 => (boolOf r6).bind fun b7 => cond b7 (some (.ret (.tup [.agg [.lit (.int .i64 0), .lit (.int .i64 0), .lit (.string ByteArray.empty), .sl 1 [], .sl 5 []], .lit (.int .i64 0), .lit (.bool false)]), h0)) ((lenA E 22 a0_).bind fun n8 => (binAV E .geq 3 (l1.getD 1 .dead) (.lit (.int .i64 n8))).bind fun r9 => (boolOf r9).bind fun b10 => cond b10 (some (.ret (.tup [.agg [.lit (.int .i64 0), .lit (.int .i64 0), .lit (.string ByteArray.empty), .sl 1 [], .sl 5 []], .lit (.int .i64 0), .lit (.bool false)]), h0)) ((indexA 12 a0_ (l1.getD 1 .dead)).bind fun e11 => cond (Nat.ble 0 e11.length) ((partA true 5 0 (e11.drop 0)).bind fun v12 => onOut (F 84 [a0_, v12, (l1.getD 1 .dead), a3_] h0) (fun a13 h14 => (tupOf a13).bind fun l15 => (l15[0]?).bind fun v16 => (tupOf a13).bind fun l17 => (l17[1]?).bind fun v18 => (tupOf a13).bind fun l19 => (l19[2]?).bind fun v20 => (aggOf v16).bind fun l21 => cond (Nat.beq l21.length 5) (some (.ret (.tup [.agg [(l21.getD 0 .dead), (l21.getD 1 .dead), (l21.getD 2 .dead), (l21.getD 3 .dead), (l21.getD 4 .dead)], v18, v20]), h14)) none) (fun _ _ _ => none) (fun _ _ => none)) none)))) ((binAV E .sub 3 a3_ (.lit (.int .i64 1))).bind fun r22 => Lp84_0 F n h0 n h0 a0_ a2_ (l1.getD 0 .dead) (l1.getD 1 .dead) (l1.getD 2 .dead) (l1.getD 3 .dead) (l1.getD 4 .dead) (.lit (.int .i64 0)) (.lit (.int .i64 0)) (.lit (.string ByteArray.empty)) [] [] r22 (l1.getD 0 .dead) (l1.getD 1 .dead) (l1.getD 2 .dead) (l1.getD 3 .dead) [] (.lit (.int .i64 0)))) none := by kernel_rfl
-- 86 limbeck/subst.Seal
noncomputable def Lp86_0 (m : Nat) (h : Heap) (x16 : AV) (x17 : AV) (x18 : AV) (x19 : AV) (x20 : AV) (z21 : List (List AV)) (z22 : List (List AV)) (x23 : AV) (x24 : AV) (x25 : AV) (x26 : AV) (z27 : List (List AV)) (x28 : AV) (x29 : AV) (x30 : AV) : R := loopAt E 86 Try.f86 F n h0 [.r, .r, .r, .r, .r, .l, .r, .b] m { s := lkS [(1, .c (.v x16)), (2, .c (.v x17)), (6, .loc [.v x18, .v x19, .v x20, .own 1 z21, .own 5 z22]), (8, .loc [.v x23, .v x24, .v x25, .v x26, .own 5 z27]), (39, .c (.v x28)), (40, .c (.v x29)), (41, .c (.v x30))], h := h }
theorem Lp86_0_zero (h : Heap) (x16 : AV) (x17 : AV) (x18 : AV) (x19 : AV) (x20 : AV) (z21 : List (List AV)) (z22 : List (List AV)) (x23 : AV) (x24 : AV) (x25 : AV) (x26 : AV) (z27 : List (List AV)) (x28 : AV) (x29 : AV) (x30 : AV) : Lp86_0 F n h0 0 h x16 x17 x18 x19 x20 z21 z22 x23 x24 x25 x26 z27 x28 x29 x30 = none := by kernel_rfl
theorem Lp86_0_succ (m : Nat) (h : Heap) (x16 : AV) (x17 : AV) (x18 : AV) (x19 : AV) (x20 : AV) (z21 : List (List AV)) (z22 : List (List AV)) (x23 : AV) (x24 : AV) (x25 : AV) (x26 : AV) (z27 : List (List AV)) (x28 : AV) (x29 : AV) (x30 : AV) : Lp86_0 F n h0 (m + 1) h x16 x17 x18 x19 x20 z21 z22 x23 x24 x25 x26 z27 x28 x29 x30 = (binAV E .lss 3 x30 x29).bind fun r31 => (boolOf r31).bind fun b32 => cond b32 ((indexA 5 x28 x30).bind fun e33 => (partA true 5 0 e33).bind fun v34 => (aggOf v34).bind fun l35 => cond (Nat.beq l35.length 5) (onOut (F 86 [.agg [(l35.getD 0 .dead), (l35.getD 1 .dead), (l35.getD 2 .dead), (l35.getD 3 .dead), (l35.getD 4 .dead)], x16, x17] h) (fun a36 h37 => (aggOf a36).bind fun l38 => cond (Nat.beq l38.length 5) (cond (Nat.ble (z27.length + ([[(l38.getD 0 .dead), (l38.getD 1 .dead), (l38.getD 2 .dead), (l38.getD 3 .dead), (l38.getD 4 .dead)]] : List (List AV)).length) maxApp) ((binAV E .add 3 x30 (.lit (.int .i64 1))).bind fun r39 => Lp86_0 F n h0 m h37 x16 x17 x18 x19 x20 z21 z22 x23 x24 x25 x26 (z27 ++ [[(l38.getD 0 .dead), (l38.getD 1 .dead), (l38.getD 2 .dead), (l38.getD 3 .dead), (l38.getD 4 .dead)]]) x28 x29 r39) none) none) (fun _ _ _ => none) (fun _ _ => none)) none) (some (.ret (.agg [x23, x24, x25, x26, .sl 5 z27]), h)) := by kernel_rfl
theorem nf86 (a0_ : AV) (a1_ : AV) (a2_ : AV) : runF E 86 Try.f86 F n [a0_, a1_, a2_] h0 = (aggOf a0_).bind fun l1 => cond (Nat.beq l1.length 5) ((binAV E .lss 3 a2_ (.lit (.int .i64 0))).bind fun r2 => (boolOf r2).bind fun b3 => cond b3 (some (.ret (.agg [(l1.getD 0 .dead), (l1.getD 1 .dead), (l1.getD 2 .dead), (l1.getD 3 .dead), (l1.getD 4 .dead)]), h0)) ((lenA E 31 a1_).bind fun n4 => (binAV E .sub 3 (.lit (.int .i64 1073741824)) (.lit (.int .i64 n4))).bind fun r5 => (binAV E .gtr 3 a2_ r5).bind fun r6 => (boolOf r6).bind fun b7 => cond b7 (some (.ret (.agg [(l1.getD 0 .dead), (l1.getD 1 .dead), (l1.getD 2 .dead), (l1.getD 3 .dead), (l1.getD 4 .dead)]), h0)) (onOut (F 139 [a1_, (l1.getD 2 .dead)] h0) (fun a8 h9 => (binAV E .eql 3 (l1.getD 0 .dead) (.lit (.int .i64 6))).bind fun r10 => (boolOf r10).bind fun b11 => cond b11 ((binAV E .geq 3 a8 (.lit (.int .i64 0))).bind fun r12 => (boolOf r12).bind fun b13 => cond b13 ((binAV E .add 3 a2_ a8).bind fun r14 => cond (AV.one r14) (some (.ret (.agg [.lit (.int .i64 9), r14, .lit (.string ByteArray.empty), .sl 1 [], .sl 5 []]), h9)) none) ((lenA E 29 (l1.getD 4 .dead)).bind fun n15 => Lp86_0 F n h0 n h9 a1_ a2_ (.lit (.int .i64 0)) (.lit (.int .i64 0)) (.lit (.string ByteArray.empty)) [] [] (l1.getD 0 .dead) (l1.getD 1 .dead) (l1.getD 2 .dead) (l1.getD 3 .dead) [] (l1.getD 4 .dead) (.lit (.int .i64 n15)) (.lit (.int .i64 0)))) ((lenA E 29 (l1.getD 4 .dead)).bind fun n40 => Lp86_0 F n h0 n h9 a1_ a2_ (.lit (.int .i64 0)) (.lit (.int .i64 0)) (.lit (.string ByteArray.empty)) [] [] (l1.getD 0 .dead) (l1.getD 1 .dead) (l1.getD 2 .dead) (l1.getD 3 .dead) [] (l1.getD 4 .dead) (.lit (.int .i64 n40)) (.lit (.int .i64 0)))) (fun _ _ _ => none) (fun _ _ => none)))) none := by kernel_rfl
-- 87 limbeck/limbeckref07.Seal
theorem nf87 (a0_ : AV) (a1_ : AV) (a2_ : AV) : runF E 87 Try.f87 F n [a0_, a1_, a2_] h0 = (aggOf a0_).bind fun l1 => cond (Nat.beq l1.length 5) ((binAV E .lss 3 a2_ (.lit (.int .i64 0))).bind fun r2 => (boolOf r2).bind fun b3 => cond b3 (some (.ret (.agg [(l1.getD 0 .dead), (l1.getD 1 .dead), (l1.getD 2 .dead), (l1.getD 3 .dead), (l1.getD 4 .dead)]), h0)) ((lenA E 31 a1_).bind fun n4 => (binAV E .sub 3 (.lit (.int .i64 1073741824)) (.lit (.int .i64 n4))).bind fun r5 => (binAV E .gtr 3 a2_ r5).bind fun r6 => (boolOf r6).bind fun b7 => cond b7 (some (.ret (.agg [(l1.getD 0 .dead), (l1.getD 1 .dead), (l1.getD 2 .dead), (l1.getD 3 .dead), (l1.getD 4 .dead)]), h0)) (onOut (F 140 [.agg [(l1.getD 0 .dead), (l1.getD 1 .dead), (l1.getD 2 .dead), (l1.getD 3 .dead), (l1.getD 4 .dead)], a1_, a2_] h0) (fun a8 h9 => (aggOf a8).bind fun l10 => cond (Nat.beq l10.length 5) (some (.ret (.agg [(l10.getD 0 .dead), (l10.getD 1 .dead), (l10.getD 2 .dead), (l10.getD 3 .dead), (l10.getD 4 .dead)]), h9)) none) (fun _ _ _ => none) (fun _ _ => none)))) none := by kernel_rfl
-- 139 slices.Index[[]string,string]
noncomputable def Lp139_0 (m : Nat) (h : Heap) (x2 : AV) (x3 : AV) (x4 : AV) (x5 : AV) : R := loopAt E 139 Try.f139 F n h0 [.r, .l, .r, .b] m { s := lkS [(0, .c (.v x2)), (1, .c (.v x3)), (7, .c (.v x4)), (8, .c (.v x5))], h := h }
theorem Lp139_0_zero (h : Heap) (x2 : AV) (x3 : AV) (x4 : AV) (x5 : AV) : Lp139_0 F n h0 0 h x2 x3 x4 x5 = none := by kernel_rfl
theorem Lp139_0_succ (m : Nat) (h : Heap) (x2 : AV) (x3 : AV) (x4 : AV) (x5 : AV) : Lp139_0 F n h0 (m + 1) h x2 x3 x4 x5 = (binAV E .lss 3 x5 x4).bind fun r6 => (boolOf r6).bind fun b7 => cond b7 ((indexA 1 x2 x5).bind fun e8 => (partA false 1 0 e8).bind fun v9 => (binAV E .eql 9 x3 v9).bind fun r10 => (boolOf r10).bind fun b11 => cond b11 (some (.ret x5, h)) ((binAV E .add 3 x5 (.lit (.int .i64 1))).bind fun r12 => Lp139_0 F n h0 m h x2 x3 x4 r12)) (some (.ret (.lit (.int .i64 (-1))), h)) := by kernel_rfl
theorem nf139 (a0_ : AV) (a1_ : AV) : runF E 139 Try.f139 F n [a0_, a1_] h0 = (lenA E 31 a0_).bind fun n1 => Lp139_0 F n h0 n h0 a0_ a1_ (.lit (.int .i64 n1)) (.lit (.int .i64 0)) := by kernel_rfl
-- 140 limbeck/limbeckref07.sealed
noncomputable def Lp140_0 (m : Nat) (h : Heap) (x12 : AV) (x13 : AV) (x14 : AV) (x15 : AV) (x16 : AV) (x17 : AV) (x18 : AV) (x19 : AV) (x20 : AV) (x21 : AV) (z22 : List (List AV)) (z23 : List (List AV)) (x24 : AV) (x25 : AV) (x26 : AV) (x27 : AV) (z28 : List (List AV)) (x29 : AV) : R := loopAt E 140 Try.f140 F n h0 [.r, .r, .r, .r, .l, .r, .b] m { s := lkS [(1, .c (.v x12)), (2, .c (.v x13)), (3, .loc [.v x14, .v x15, .v x16, .v x17, .v x18]), (6, .loc [.v x19, .v x20, .v x21, .own 1 z22, .own 5 z23]), (8, .loc [.v x24, .v x25, .v x26, .v x27, .own 5 z28]), (9, .c (.v x29))], h := h }
theorem Lp140_0_zero (h : Heap) (x12 : AV) (x13 : AV) (x14 : AV) (x15 : AV) (x16 : AV) (x17 : AV) (x18 : AV) (x19 : AV) (x20 : AV) (x21 : AV) (z22 : List (List AV)) (z23 : List (List AV)) (x24 : AV) (x25 : AV) (x26 : AV) (x27 : AV) (z28 : List (List AV)) (x29 : AV) : Lp140_0 F n h0 0 h x12 x13 x14 x15 x16 x17 x18 x19 x20 x21 z22 z23 x24 x25 x26 x27 z28 x29 = none := by kernel_rfl
theorem Lp140_0_succ (m : Nat) (h : Heap) (x12 : AV) (x13 : AV) (x14 : AV) (x15 : AV) (x16 : AV) (x17 : AV) (x18 : AV) (x19 : AV) (x20 : AV) (x21 : AV) (z22 : List (List AV)) (z23 : List (List AV)) (x24 : AV) (x25 : AV) (x26 : AV) (x27 : AV) (z28 : List (List AV)) (x29 : AV) : Lp140_0 F n h0 (m + 1) h x12 x13 x14 x15 x16 x17 x18 x19 x20 x21 z22 z23 x24 x25 x26 x27 z28 x29 = (lenA E 29 x18).bind fun n30 => (binAV E .lss 3 x29 (.lit (.int .i64 n30))).bind fun r31 => (boolOf r31).bind fun b32 => cond b32 ((indexA 5 x18 x29).bind fun e33 => (partA true 5 0 e33).bind fun v34 => onOut (F 140 [v34, x12, x13] h) (fun a35 h36 => (aggOf a35).bind fun l37 => cond (Nat.beq l37.length 5) (cond (Nat.ble (z28.length + ([[(l37.getD 0 .dead), (l37.getD 1 .dead), (l37.getD 2 .dead), (l37.getD 3 .dead), (l37.getD 4 .dead)]] : List (List AV)).length) maxApp) ((binAV E .add 3 x29 (.lit (.int .i64 1))).bind fun r38 => Lp140_0 F n h0 m h36 x12 x13 x14 x15 x16 x17 x18 x19 x20 x21 z22 z23 x24 x25 x26 x27 (z28 ++ [[(l37.getD 0 .dead), (l37.getD 1 .dead), (l37.getD 2 .dead), (l37.getD 3 .dead), (l37.getD 4 .dead)]]) r38) none) none) (fun _ _ _ => none) (fun _ _ => none)) (some (.ret (.agg [x24, x25, x26, x27, .sl 5 z28]), h)) := by kernel_rfl
theorem nf140 (a0_ : AV) (a1_ : AV) (a2_ : AV) : runF E 140 Try.f140 F n [a0_, a1_, a2_] h0 = (aggOf a0_).bind fun l1 => cond (Nat.beq l1.length 5) ((binAV E .eql 3 (l1.getD 0 .dead) (.lit (.int .i64 6))).bind fun r2 => (boolOf r2).bind fun b3 => cond b3 (onOut (F 157 [a1_, (l1.getD 2 .dead)] h0) (fun a4 h5 => (binAV E .geq 3 a4 (.lit (.int .i64 0))).bind fun r6 => (boolOf r6).bind fun b7 => cond b7 ((binAV E .add 3 a2_ a4).bind fun r8 => onOut (F 73 [r8] h5) (fun a9 h10 => (aggOf a9).bind fun l11 => cond (Nat.beq l11.length 5) (some (.ret (.agg [(l11.getD 0 .dead), (l11.getD 1 .dead), (l11.getD 2 .dead), (l11.getD 3 .dead), (l11.getD 4 .dead)]), h10)) none) (fun _ _ _ => none) (fun _ _ => none)) (Lp140_0 F n h0 n h5 a1_ a2_ (l1.getD 0 .dead) (l1.getD 1 .dead) (l1.getD 2 .dead) (l1.getD 3 .dead) (l1.getD 4 .dead) (.lit (.int .i64 0)) (.lit (.int .i64 0)) (.lit (.string ByteArray.empty)) [] [] (l1.getD 0 .dead) (l1.getD 1 .dead) (l1.getD 2 .dead) (l1.getD 3 .dead) [] (.lit (.int .i64 0)))) (fun _ _ _ => none) (fun _ _ => none)) (Lp140_0 F n h0 n h0 a1_ a2_ (l1.getD 0 .dead) (l1.getD 1 .dead) (l1.getD 2 .dead) (l1.getD 3 .dead) (l1.getD 4 .dead) (.lit (.int .i64 0)) (.lit (.int .i64 0)) (.lit (.string ByteArray.empty)) [] [] (l1.getD 0 .dead) (l1.getD 1 .dead) (l1.getD 2 .dead) (l1.getD 3 .dead) [] (.lit (.int .i64 0)))) none := by kernel_rfl
-- 157 limbeck/limbeckref01.Place
noncomputable def Lp157_0 (m : Nat) (h : Heap) (x1 : AV) (x2 : AV) (x3 : AV) : R := loopAt E 157 Try.f157 F n h0 [.r, .l, .r, .b] m { s := lkS [(0, .c (.v x1)), (1, .c (.v x2)), (5, .c (.v x3))], h := h }
theorem Lp157_0_zero (h : Heap) (x1 : AV) (x2 : AV) (x3 : AV) : Lp157_0 F n h0 0 h x1 x2 x3 = none := by kernel_rfl
theorem Lp157_0_succ (m : Nat) (h : Heap) (x1 : AV) (x2 : AV) (x3 : AV) : Lp157_0 F n h0 (m + 1) h x1 x2 x3 = (lenA E 31 x1).bind fun n4 => (binAV E .lss 3 x3 (.lit (.int .i64 n4))).bind fun r5 => (boolOf r5).bind fun b6 => cond b6 ((indexA 1 x1 x3).bind fun e7 => (partA false 1 0 e7).bind fun v8 => (binAV E .eql 9 v8 x2).bind fun r9 => (boolOf r9).bind fun b10 => cond b10 (some (.ret x3, h)) ((binAV E .add 3 x3 (.lit (.int .i64 1))).bind fun r11 => Lp157_0 F n h0 m h x1 x2 r11)) (some (.ret (.lit (.int .i64 (-1))), h)) := by kernel_rfl
theorem nf157 (a0_ : AV) (a1_ : AV) : runF E 157 Try.f157 F n [a0_, a1_] h0 = Lp157_0 F n h0 n h0 a0_ a1_ (.lit (.int .i64 0)) := by kernel_rfl
-- 15 limbeck/limbecklaw28.Few
noncomputable def Lp15_0 (m : Nat) (h : Heap) (x1 : AV) (x2 : AV) (x3 : AV) : R := loopAt E 15 Try.f15 F n h0 [.r, .r, .l, .r, .b] m { s := lkS [(0, .c (.v x1)), (3, .c (.v x2)), (4, .c (.v x3))], h := h }
theorem Lp15_0_zero (h : Heap) (x1 : AV) (x2 : AV) (x3 : AV) : Lp15_0 F n h0 0 h x1 x2 x3 = none := by kernel_rfl
theorem Lp15_0_succ (m : Nat) (h : Heap) (x1 : AV) (x2 : AV) (x3 : AV) : Lp15_0 F n h0 (m + 1) h x1 x2 x3 = (lenA E 22 x1).bind fun n4 => (binAV E .lss 3 x3 (.lit (.int .i64 n4))).bind fun r5 => (boolOf r5).bind fun b6 => cond b6 ((binAV E .lss 3 x3 (.lit (.int .i64 20))).bind fun r7 => (boolOf r7).bind fun b8 => cond b8 ((indexA 12 x1 x3).bind fun e9 => cond (Nat.ble 0 e9.length) ((partA true 5 0 (e9.drop 0)).bind fun v10 => onOut (F 24 [v10] h) (fun a11 h12 => (indexA 12 x1 x3).bind fun e13 => cond (Nat.ble 5 e13.length) ((partA true 5 0 (e13.drop 5)).bind fun v14 => onOut (F 24 [v14] h12) (fun a15 h16 => (indexA 12 x1 x3).bind fun e17 => cond (Nat.ble 10 e17.length) (cond (Nat.ble 0 (e17.drop 10).length) ((partA false 1 0 ((e17.drop 10).drop 0)).bind fun v18 => (lenA E 9 v18).bind fun n19 => (binAV E .quo 3 (.lit (.int .i64 n19)) (.lit (.int .i64 8))).bind fun r20 => (maxs x2 [a11, a15, r20]).bind fun r21 => (binAV E .add 3 x3 (.lit (.int .i64 1))).bind fun r22 => Lp15_0 F n h0 m h16 x1 r21 r22) none) none) (fun _ _ _ => none) (fun _ _ => none)) none) (fun _ _ _ => none) (fun _ _ => none)) none) ((lenA E 22 x1).bind fun n23 => (binAV E .gtr 3 (.lit (.int .i64 n23)) (.lit (.int .i64 12))).bind fun r24 => (boolOf r24).bind fun b25 => cond b25 (some (.ret (.lit (.int .i64 5000)), h)) (some (.ret x2, h)))) ((lenA E 22 x1).bind fun n26 => (binAV E .gtr 3 (.lit (.int .i64 n26)) (.lit (.int .i64 12))).bind fun r27 => (boolOf r27).bind fun b28 => cond b28 (some (.ret (.lit (.int .i64 5000)), h)) (some (.ret x2, h))) := by kernel_rfl
theorem nf15 (a0_ : AV) : runF E 15 Try.f15 F n [a0_] h0 = Lp15_0 F n h0 n h0 a0_ (.lit (.int .i64 0)) (.lit (.int .i64 0)) := by kernel_rfl
-- 16 limbeck/limbecklaw07.Few
noncomputable def Lp16_0 (m : Nat) (h : Heap) (x1 : AV) (x2 : AV) (x3 : AV) : R := loopAt E 16 Try.f16 F n h0 [.r, .r, .l, .r, .b] m { s := lkS [(0, .c (.v x1)), (3, .c (.v x2)), (4, .c (.v x3))], h := h }
theorem Lp16_0_zero (h : Heap) (x1 : AV) (x2 : AV) (x3 : AV) : Lp16_0 F n h0 0 h x1 x2 x3 = none := by kernel_rfl
theorem Lp16_0_succ (m : Nat) (h : Heap) (x1 : AV) (x2 : AV) (x3 : AV) : Lp16_0 F n h0 (m + 1) h x1 x2 x3 = (lenA E 23 x1).bind fun n4 => (binAV E .lss 3 x3 (.lit (.int .i64 n4))).bind fun r5 => (boolOf r5).bind fun b6 => cond b6 ((binAV E .lss 3 x3 (.lit (.int .i64 20))).bind fun r7 => (boolOf r7).bind fun b8 => cond b8 ((indexA 6 x1 x3).bind fun e9 => cond (Nat.ble 1 e9.length) ((partA true 5 0 (e9.drop 1)).bind fun v10 => onOut (F 24 [v10] h) (fun a11 h12 => (indexA 6 x1 x3).bind fun e13 => cond (Nat.ble 0 e13.length) ((partA false 1 0 (e13.drop 0)).bind fun v14 => (lenA E 9 v14).bind fun n15 => (binAV E .quo 3 (.lit (.int .i64 n15)) (.lit (.int .i64 8))).bind fun r16 => (maxs x2 [a11, r16]).bind fun r17 => (binAV E .add 3 x3 (.lit (.int .i64 1))).bind fun r18 => Lp16_0 F n h0 m h12 x1 r17 r18) none) (fun _ _ _ => none) (fun _ _ => none)) none) ((lenA E 23 x1).bind fun n19 => (binAV E .gtr 3 (.lit (.int .i64 n19)) (.lit (.int .i64 20))).bind fun r20 => (boolOf r20).bind fun b21 => cond b21 (some (.ret (.lit (.int .i64 5000)), h)) (some (.ret x2, h)))) ((lenA E 23 x1).bind fun n22 => (binAV E .gtr 3 (.lit (.int .i64 n22)) (.lit (.int .i64 20))).bind fun r23 => (boolOf r23).bind fun b24 => cond b24 (some (.ret (.lit (.int .i64 5000)), h)) (some (.ret x2, h))) := by kernel_rfl
theorem nf16 (a0_ : AV) : runF E 16 Try.f16 F n [a0_] h0 = Lp16_0 F n h0 n h0 a0_ (.lit (.int .i64 0)) (.lit (.int .i64 0)) := by kernel_rfl
-- 17 limbeck/limbecklaw28.awake
theorem nf17 : runF E 17 Try.f17 F n [] h0 = onOut (F 72 [.lit (.int .i64 1)] h0) (fun a1 h2 => (aggOf a1).bind fun l3 => cond (Nat.beq l3.length 5) (onOut (F 69 [] h2) (fun a4 h5 => (aggOf a4).bind fun l6 => cond (Nat.beq l6.length 5) (onOut (F 19 [.sl 12 [], .sl 5 [[(l3.getD 0 .dead), (l3.getD 1 .dead), (l3.getD 2 .dead), (l3.getD 3 .dead), (l3.getD 4 .dead)]], .sl 6 [[.lit (.string ⟨#[88]⟩), (l6.getD 0 .dead), (l6.getD 1 .dead), (l6.getD 2 .dead), (l6.getD 3 .dead), (l6.getD 4 .dead)]], .agg [.lit (.string ⟨#[102]⟩), .lit (.int .i64 2)]] h5) (fun a7 h8 => (tupOf a7).bind fun l9 => (l9[0]?).bind fun v10 => (tupOf a7).bind fun l11 => (l11[1]?).bind fun v12 => onOut (F 73 [.lit (.int .i64 0)] h8) (fun a13 h14 => (aggOf a13).bind fun l15 => cond (Nat.beq l15.length 5) (onOut (F 19 [v10, .sl 5 [[(l15.getD 0 .dead), (l15.getD 1 .dead), (l15.getD 2 .dead), (l15.getD 3 .dead), (l15.getD 4 .dead)]], .sl 6 [[.lit (.string ⟨#[89]⟩), (l3.getD 0 .dead), (l3.getD 1 .dead), (l3.getD 2 .dead), (l3.getD 3 .dead), (l3.getD 4 .dead)]], .agg [.lit (.string ByteArray.empty), .lit (.int .i64 0)]] h14) (fun a16 h17 => (tupOf a16).bind fun l18 => (l18[0]?).bind fun v19 => (tupOf a16).bind fun l20 => (l20[1]?).bind fun v21 => onOut (F 73 [.lit (.int .i64 1)] h17) (fun a22 h23 => onOut (F 74 [a22, .agg [(l3.getD 0 .dead), (l3.getD 1 .dead), (l3.getD 2 .dead), (l3.getD 3 .dead), (l3.getD 4 .dead)]] h23) (fun a24 h25 => onOut (F 26 [v19, a24] h25) (fun a26 h27 => (tupOf a26).bind fun l28 => (l28[0]?).bind fun v29 => (tupOf a26).bind fun l30 => (l30[1]?).bind fun v31 => (aggOf v29).bind fun l32 => cond (Nat.beq l32.length 5) ((binAV E .eql 3 v12 (.lit (.int .i64 0))).bind fun r33 => (boolOf r33).bind fun b34 => cond b34 ((binAV E .eql 3 v21 (.lit (.int .i64 1))).bind fun r35 => (boolOf r35).bind fun b36 => cond b36 ((lenA E 22 v19).bind fun n37 => (binAV E .eql 3 (.lit (.int .i64 n37)) (.lit (.int .i64 2))).bind fun r38 => (boolOf r38).bind fun b39 => cond b39 (onOut (F 20 [v19] h27) (fun a40 h41 => (boolOf a40).bind fun b42 => cond b42 (onOut (F 32 [v19, .lit (.int .i64 0)] h41) (fun a43 h44 => (boolOf a43).bind fun b45 => cond b45 (onOut (F 32 [v19, .lit (.int .i64 1)] h44) (fun a46 h47 => (unAV .not a46).bind fun r48 => (boolOf r48).bind fun b49 => cond b49 ((boolOf v31).bind fun b50 => cond b50 ((binAV E .eql 3 (l32.getD 0 .dead) (.lit (.int .i64 7))).bind fun r51 => (boolOf r51).bind fun b52 => cond b52 ((indexA 5 (l32.getD 4 .dead) (.lit (.int .i64 0))).bind fun e53 => cond (Nat.ble 0 e53.length) ((partA false 1 0 (e53.drop 0)).bind fun v54 => (binAV E .eql 3 v54 (.lit (.int .i64 1))).bind fun r55 => some (.ret r55, h47)) none) (some (.ret (.lit (.bool false)), h47))) (some (.ret (.lit (.bool false)), h47))) (some (.ret (.lit (.bool false)), h47))) (fun _ _ _ => none) (fun _ _ => none)) (some (.ret (.lit (.bool false)), h44))) (fun _ _ _ => none) (fun _ _ => none)) (some (.ret (.lit (.bool false)), h41))) (fun _ _ _ => none) (fun _ _ => none)) (some (.ret (.lit (.bool false)), h27))) (some (.ret (.lit (.bool false)), h27))) (some (.ret (.lit (.bool false)), h27))) none) (fun _ _ _ => none) (fun _ _ => none)) (fun _ _ _ => none) (fun _ _ => none)) (fun _ _ _ => none) (fun _ _ => none)) (fun _ _ _ => none) (fun _ _ => none)) none) (fun _ _ _ => none) (fun _ _ => none)) (fun _ _ _ => none) (fun _ _ => none)) none) (fun _ _ _ => none) (fun _ _ => none)) none) (fun _ _ _ => none) (fun _ _ => none) := by kernel_rfl
-- 18 limbeck/limbeckref28.Right
noncomputable def Lp18_0 (m : Nat) (h : Heap) (x1 : AV) (x2 : AV) : R := loopAt E 18 Try.f18 F n h0 [.r, .l, .r, .b] m { s := lkS [(0, .c (.v x1)), (3, .c (.v x2))], h := h }
theorem Lp18_0_zero (h : Heap) (x1 : AV) (x2 : AV) : Lp18_0 F n h0 0 h x1 x2 = none := by kernel_rfl
theorem Lp18_0_succ (m : Nat) (h : Heap) (x1 : AV) (x2 : AV) : Lp18_0 F n h0 (m + 1) h x1 x2 = (lenA E 22 x1).bind fun n3 => (binAV E .lss 3 x2 (.lit (.int .i64 n3))).bind fun r4 => (boolOf r4).bind fun b5 => cond b5 ((indexA 12 x1 x2).bind fun e6 => (partA true 12 0 e6).bind fun v7 => (aggOf v7).bind fun l8 => cond (Nat.beq l8.length 12) (onOut (F 25 [.agg [(l8.getD 0 .dead), (l8.getD 1 .dead), (l8.getD 2 .dead), (l8.getD 3 .dead), (l8.getD 4 .dead)]] h) (fun a9 h10 => (unAV .not a9).bind fun r11 => (boolOf r11).bind fun b12 => cond b12 (some (.ret (.lit (.bool false)), h10)) (onOut (F 75 [.agg [(l8.getD 0 .dead), (l8.getD 1 .dead), (l8.getD 2 .dead), (l8.getD 3 .dead), (l8.getD 4 .dead)]] h10) (fun a13 h14 => (unAV .not a13).bind fun r15 => (boolOf r15).bind fun b16 => cond b16 (some (.ret (.lit (.bool false)), h14)) (onOut (F 76 [.agg [(l8.getD 0 .dead), (l8.getD 1 .dead), (l8.getD 2 .dead), (l8.getD 3 .dead), (l8.getD 4 .dead)], x2] h14) (fun a17 h18 => (unAV .not a17).bind fun r19 => (boolOf r19).bind fun b20 => cond b20 (some (.ret (.lit (.bool false)), h18)) (onOut (F 25 [.agg [(l8.getD 5 .dead), (l8.getD 6 .dead), (l8.getD 7 .dead), (l8.getD 8 .dead), (l8.getD 9 .dead)]] h18) (fun a21 h22 => (unAV .not a21).bind fun r23 => (boolOf r23).bind fun b24 => cond b24 (some (.ret (.lit (.bool false)), h22)) (onOut (F 75 [.agg [(l8.getD 5 .dead), (l8.getD 6 .dead), (l8.getD 7 .dead), (l8.getD 8 .dead), (l8.getD 9 .dead)]] h22) (fun a25 h26 => (unAV .not a25).bind fun r27 => (boolOf r27).bind fun b28 => cond b28 (some (.ret (.lit (.bool false)), h26)) (onOut (F 76 [.agg [(l8.getD 5 .dead), (l8.getD 6 .dead), (l8.getD 7 .dead), (l8.getD 8 .dead), (l8.getD 9 .dead)], .lit (.int .i64 0)] h26) (fun a29 h30 => (unAV .not a29).bind fun r31 => (boolOf r31).bind fun b32 => cond b32 (some (.ret (.lit (.bool false)), h30)) ((binAV E .add 3 x2 (.lit (.int .i64 1))).bind fun r33 => Lp18_0 F n h0 m h30 x1 r33)) (fun _ _ _ => none) (fun _ _ => none))) (fun _ _ _ => none) (fun _ _ => none))) (fun _ _ _ => none) (fun _ _ => none))) (fun _ _ _ => none) (fun _ _ => none))) (fun _ _ _ => none) (fun _ _ => none))) (fun _ _ _ => none) (fun _ _ => none)) none) ((lenA E 22 x1).bind fun n34 => (binAV E .leq 3 (.lit (.int .i64 n34)) (.lit (.int .i64 1073741824))).bind fun r35 => some (.ret r35, h)) := by kernel_rfl
theorem nf18 (a0_ : AV) : runF E 18 Try.f18 F n [a0_] h0 = Lp18_0 F n h0 n h0 a0_ (.lit (.int .i64 0)) := by kernel_rfl
-- 19 limbeck/seal.Add
noncomputable def Lp19_0 (m : Nat) (h : Heap) (x6 : AV) (x7 : AV) (x8 : AV) (x9 : AV) (w10 : Nat) (z11 : List (List AV)) (x12 : AV) (x13 : AV) (x14 : AV) : R := loopAt E 19 Try.f19 F n h0 [.r, .r, .l, .r, .b] m { s := lkS [(0, .c (.v x6)), (1, .c (.v x7)), (7, .loc [.v x8, .v x9]), (10, .c (.own w10 z11)), (15, .c (.v x12)), (16, .c (.v x13)), (17, .c (.v x14))], h := h }
theorem Lp19_0_zero (h : Heap) (x6 : AV) (x7 : AV) (x8 : AV) (x9 : AV) (w10 : Nat) (z11 : List (List AV)) (x12 : AV) (x13 : AV) (x14 : AV) : Lp19_0 F n h0 0 h x6 x7 x8 x9 w10 z11 x12 x13 x14 = none := by kernel_rfl
theorem Lp19_0_succ (m : Nat) (h : Heap) (x6 : AV) (x7 : AV) (x8 : AV) (x9 : AV) (w10 : Nat) (z11 : List (List AV)) (x12 : AV) (x13 : AV) (x14 : AV) : Lp19_0 F n h0 (m + 1) h x6 x7 x8 x9 w10 z11 x12 x13 x14 = (binAV E .lss 3 x14 x13).bind fun r15 => (boolOf r15).bind fun b16 => cond b16 ((indexA 6 x12 x14).bind fun e17 => (partA true 6 0 e17).bind fun v18 => (aggOf v18).bind fun l19 => cond (Nat.beq l19.length 6) ((lenA E 29 x7).bind fun n20 => (binAV E .lss 3 x14 (.lit (.int .i64 n20))).bind fun r21 => (boolOf r21).bind fun b22 => cond b22 ((indexA 5 x7 x14).bind fun e23 => (partA true 5 0 e23).bind fun v24 => (aggOf v24).bind fun l25 => cond (Nat.beq l25.length 5) (cond (Nat.beq w10 12 && Nat.ble (z11.length + ([[(l25.getD 0 .dead), (l25.getD 1 .dead), (l25.getD 2 .dead), (l25.getD 3 .dead), (l25.getD 4 .dead), (l19.getD 1 .dead), (l19.getD 2 .dead), (l19.getD 3 .dead), (l19.getD 4 .dead), (l19.getD 5 .dead), x8, x9]] : List (List AV)).length) maxApp) ((binAV E .add 3 x14 (.lit (.int .i64 1))).bind fun r26 => Lp19_0 F n h0 m h x6 x7 x8 x9 12 (z11 ++ [[(l25.getD 0 .dead), (l25.getD 1 .dead), (l25.getD 2 .dead), (l25.getD 3 .dead), (l25.getD 4 .dead), (l19.getD 1 .dead), (l19.getD 2 .dead), (l19.getD 3 .dead), (l19.getD 4 .dead), (l19.getD 5 .dead), x8, x9]]) x12 x13 r26) none) none) ((binAV E .add 3 x14 (.lit (.int .i64 1))).bind fun r27 => Lp19_0 F n h0 m h x6 x7 x8 x9 w10 z11 x12 x13 r27)) none) ((lenA E 22 x6).bind fun n28 => some (.ret (.tup [.sl w10 z11, .lit (.int .i64 n28)]), h)) := by kernel_rfl
theorem nf19 (a0_ : AV) (a1_ : AV) (a2_ : AV) (a3_ : AV) : runF E 19 Try.f19 F n [a0_, a1_, a2_, a3_] h0 = (aggOf a3_).bind fun l1 => cond (Nat.beq l1.length 2) (onOut (F 77 [a0_] h0) (fun _ _ => none) (fun n4 a2 h3 => (lenA E 23 a2_).bind fun n5 => Lp19_0 F n h0 n h3 a0_ a1_ (l1.getD 0 .dead) (l1.getD 1 .dead) n4 a2 a2_ (.lit (.int .i64 n5)) (.lit (.int .i64 0))) (fun _ _ => none)) none := by kernel_rfl
-- 20 limbeck/seal.Right
noncomputable def Lp20_0 (m : Nat) (h : Heap) (x2 : AV) (x3 : AV) (x4 : AV) (x5 : AV) : R := loopAt E 20 Try.f20 F n h0 [.r, .l, .r, .b] m { s := lkS [(0, .c (.v x2)), (5, .c (.v x3)), (6, .c (.v x4)), (7, .c (.v x5))], h := h }
theorem Lp20_0_zero (h : Heap) (x2 : AV) (x3 : AV) (x4 : AV) (x5 : AV) : Lp20_0 F n h0 0 h x2 x3 x4 x5 = none := by kernel_rfl
theorem Lp20_0_succ (m : Nat) (h : Heap) (x2 : AV) (x3 : AV) (x4 : AV) (x5 : AV) : Lp20_0 F n h0 (m + 1) h x2 x3 x4 x5 = (binAV E .lss 3 x5 x4).bind fun r6 => (boolOf r6).bind fun b7 => cond b7 ((indexA 12 x3 x5).bind fun e8 => (partA true 12 0 e8).bind fun v9 => (aggOf v9).bind fun l10 => cond (Nat.beq l10.length 12) (onOut (F 78 [.agg [(l10.getD 0 .dead), (l10.getD 1 .dead), (l10.getD 2 .dead), (l10.getD 3 .dead), (l10.getD 4 .dead)], x5] h) (fun a11 h12 => (unAV .not a11).bind fun r13 => (boolOf r13).bind fun b14 => cond b14 (some (.ret (.lit (.bool false)), h12)) (onOut (F 78 [.agg [(l10.getD 5 .dead), (l10.getD 6 .dead), (l10.getD 7 .dead), (l10.getD 8 .dead), (l10.getD 9 .dead)], .lit (.int .i64 0)] h12) (fun a15 h16 => (unAV .not a15).bind fun r17 => (boolOf r17).bind fun b18 => cond b18 (some (.ret (.lit (.bool false)), h16)) ((binAV E .add 3 x5 (.lit (.int .i64 1))).bind fun r19 => Lp20_0 F n h0 m h16 x2 x3 x4 r19)) (fun _ _ _ => none) (fun _ _ => none))) (fun _ _ _ => none) (fun _ _ => none)) none) ((lenA E 22 x2).bind fun n20 => (binAV E .leq 3 (.lit (.int .i64 n20)) (.lit (.int .i64 1073741824))).bind fun r21 => some (.ret r21, h)) := by kernel_rfl
theorem nf20 (a0_ : AV) : runF E 20 Try.f20 F n [a0_] h0 = (lenA E 22 a0_).bind fun n1 => Lp20_0 F n h0 n h0 a0_ a0_ (.lit (.int .i64 n1)) (.lit (.int .i64 0)) := by kernel_rfl
-- 21 limbeck/seal.Find
theorem nf21 (a0_ : AV) (a1_ : AV) : runF E 21 Try.f21 F n [a0_, a1_] h0 = (binAV E .lss 3 a1_ (.lit (.int .i64 0))).bind fun r1 => (boolOf r1).bind fun b2 => cond b2 (some (.ret (.tup [.agg [.lit (.int .i64 0), .lit (.int .i64 0), .lit (.string ByteArray.empty), .sl 1 [], .sl 5 [], .lit (.int .i64 0), .lit (.int .i64 0), .lit (.string ByteArray.empty), .sl 1 [], .sl 5 [], .lit (.string ByteArray.empty), .lit (.int .i64 0)], .lit (.bool false)]), h0)) ((lenA E 22 a0_).bind fun n3 => (binAV E .geq 3 a1_ (.lit (.int .i64 n3))).bind fun r4 => (boolOf r4).bind fun b5 => cond b5 (some (.ret (.tup [.agg [.lit (.int .i64 0), .lit (.int .i64 0), .lit (.string ByteArray.empty), .sl 1 [], .sl 5 [], .lit (.int .i64 0), .lit (.int .i64 0), .lit (.string ByteArray.empty), .sl 1 [], .sl 5 [], .lit (.string ByteArray.empty), .lit (.int .i64 0)], .lit (.bool false)]), h0)) ((indexA 12 a0_ a1_).bind fun e6 => (partA true 12 0 e6).bind fun v7 => (aggOf v7).bind fun l8 => cond (Nat.beq l8.length 12) (some (.ret (.tup [.agg [(l8.getD 0 .dead), (l8.getD 1 .dead), (l8.getD 2 .dead), (l8.getD 3 .dead), (l8.getD 4 .dead), (l8.getD 5 .dead), (l8.getD 6 .dead), (l8.getD 7 .dead), (l8.getD 8 .dead), (l8.getD 9 .dead), (l8.getD 10 .dead), (l8.getD 11 .dead)], .lit (.bool true)]), h0)) none)) := by kernel_rfl
-- 22 limbeck/limbeckref28.Same
noncomputable def Lp22_0 (m : Nat) (h : Heap) (x5 : AV) (x6 : AV) (x7 : AV) : R := loopAt E 22 Try.f22 F n h0 [.r, .r, .l, .r, .b] m { s := lkS [(0, .c (.v x5)), (1, .c (.v x6)), (5, .c (.v x7))], h := h }
theorem Lp22_0_zero (h : Heap) (x5 : AV) (x6 : AV) (x7 : AV) : Lp22_0 F n h0 0 h x5 x6 x7 = none := by kernel_rfl
theorem Lp22_0_succ (m : Nat) (h : Heap) (x5 : AV) (x6 : AV) (x7 : AV) : Lp22_0 F n h0 (m + 1) h x5 x6 x7 = (lenA E 22 x5).bind fun n8 => (binAV E .lss 3 x7 (.lit (.int .i64 n8))).bind fun r9 => (boolOf r9).bind fun b10 => cond b10 ((lenA E 22 x6).bind fun n11 => (binAV E .lss 3 x7 (.lit (.int .i64 n11))).bind fun r12 => (boolOf r12).bind fun b13 => cond b13 ((indexA 12 x5 x7).bind fun e14 => cond (Nat.ble 10 e14.length) ((partA true 2 0 (e14.drop 10)).bind fun v15 => (indexA 12 x6 x7).bind fun e16 => cond (Nat.ble 10 e16.length) ((partA true 2 0 (e16.drop 10)).bind fun v17 => (binAV E .neq 25 v15 v17).bind fun r18 => (boolOf r18).bind fun b19 => cond b19 (some (.ret (.lit (.bool false)), h)) ((indexA 12 x5 x7).bind fun e20 => cond (Nat.ble 0 e20.length) ((partA true 5 0 (e20.drop 0)).bind fun v21 => (indexA 12 x6 x7).bind fun e22 => cond (Nat.ble 0 e22.length) ((partA true 5 0 (e22.drop 0)).bind fun v23 => onOut (F 23 [v21, v23] h) (fun a24 h25 => (unAV .not a24).bind fun r26 => (boolOf r26).bind fun b27 => cond b27 (some (.ret (.lit (.bool false)), h25)) ((indexA 12 x5 x7).bind fun e28 => cond (Nat.ble 5 e28.length) ((partA true 5 0 (e28.drop 5)).bind fun v29 => (indexA 12 x6 x7).bind fun e30 => cond (Nat.ble 5 e30.length) ((partA true 5 0 (e30.drop 5)).bind fun v31 => onOut (F 23 [v29, v31] h25) (fun a32 h33 => (unAV .not a32).bind fun r34 => (boolOf r34).bind fun b35 => cond b35 (some (.ret (.lit (.bool false)), h33)) ((binAV E .add 3 x7 (.lit (.int .i64 1))).bind fun r36 => Lp22_0 F n h0 m h33 x5 x6 r36)) (fun _ _ _ => none) (fun _ _ => none)) none) none)) (fun _ _ _ => none) (fun _ _ => none)) none) none)) none) none) (some (.ret (.lit (.bool true)), h))) (some (.ret (.lit (.bool true)), h)) := by kernel_rfl
theorem nf22 (a0_ : AV) (a1_ : AV) : runF E 22 Try.f22 F n [a0_, a1_] h0 = (lenA E 22 a0_).bind fun n1 => (lenA E 22 a1_).bind fun n2 => (binAV E .neq 3 (.lit (.int .i64 n1)) (.lit (.int .i64 n2))).bind fun r3 => (boolOf r3).bind fun b4 => cond b4 (some (.ret (.lit (.bool false)), h0)) (Lp22_0 F n h0 n h0 a0_ a1_ (.lit (.int .i64 0))) := by kernel_rfl
-- 23 limbeck/limbeckref04.Same
noncomputable def Lp23_0 (m : Nat) (h : Heap) (x17 : AV) (x18 : AV) (x19 : AV) (x20 : AV) (x21 : AV) (x22 : AV) (x23 : AV) (x24 : AV) (x25 : AV) (x26 : AV) (x27 : AV) : R := loopAt E 23 Try.f23 F n h0 [.r, .r, .l, .r, .b] m { s := lkS [(2, .loc [.v x17, .v x18, .v x19, .v x20, .v x21]), (3, .loc [.v x22, .v x23, .v x24, .v x25, .v x26]), (5, .c (.v x27))], h := h }
theorem Lp23_0_zero (h : Heap) (x17 : AV) (x18 : AV) (x19 : AV) (x20 : AV) (x21 : AV) (x22 : AV) (x23 : AV) (x24 : AV) (x25 : AV) (x26 : AV) (x27 : AV) : Lp23_0 F n h0 0 h x17 x18 x19 x20 x21 x22 x23 x24 x25 x26 x27 = none := by kernel_rfl
theorem Lp23_0_succ (m : Nat) (h : Heap) (x17 : AV) (x18 : AV) (x19 : AV) (x20 : AV) (x21 : AV) (x22 : AV) (x23 : AV) (x24 : AV) (x25 : AV) (x26 : AV) (x27 : AV) : Lp23_0 F n h0 (m + 1) h x17 x18 x19 x20 x21 x22 x23 x24 x25 x26 x27 = (lenA E 29 x21).bind fun n28 => (binAV E .lss 3 x27 (.lit (.int .i64 n28))).bind fun r29 => (boolOf r29).bind fun b30 => cond b30 ((lenA E 29 x26).bind fun n31 => (binAV E .lss 3 x27 (.lit (.int .i64 n31))).bind fun r32 => (boolOf r32).bind fun b33 => cond b33 ((indexA 5 x21 x27).bind fun e34 => (partA true 5 0 e34).bind fun v35 => (indexA 5 x26 x27).bind fun e36 => (partA true 5 0 e36).bind fun v37 => onOut (F 23 [v35, v37] h) (fun a38 h39 => (unAV .not a38).bind fun r40 => (boolOf r40).bind fun b41 => cond b41 (some (.ret (.lit (.bool false)), h39)) ((binAV E .add 3 x27 (.lit (.int .i64 1))).bind fun r42 => Lp23_0 F n h0 m h39 x17 x18 x19 x20 x21 x22 x23 x24 x25 x26 r42)) (fun _ _ _ => none) (fun _ _ => none)) (some (.ret (.lit (.bool true)), h))) (some (.ret (.lit (.bool true)), h)) := by kernel_rfl
theorem nf23 (a0_ : AV) (a1_ : AV) : runF E 23 Try.f23 F n [a0_, a1_] h0 = (aggOf a0_).bind fun l1 => cond (Nat.beq l1.length 5) ((aggOf a1_).bind fun l2 => cond (Nat.beq l2.length 5) ((binAV E .neq 3 (l1.getD 0 .dead) (l2.getD 0 .dead)).bind fun r3 => (boolOf r3).bind fun b4 => cond b4 (some (.ret (.lit (.bool false)), h0)) ((binAV E .neq 3 (l1.getD 1 .dead) (l2.getD 1 .dead)).bind fun r5 => (boolOf r5).bind fun b6 => cond b6 (some (.ret (.lit (.bool false)), h0)) ((binAV E .neq 9 (l1.getD 2 .dead) (l2.getD 2 .dead)).bind fun r7 => (boolOf r7).bind fun b8 => cond b8 (some (.ret (.lit (.bool false)), h0)) (onOut (F 79 [(l1.getD 3 .dead), (l2.getD 3 .dead)] h0) (fun a9 h10 => (unAV .not a9).bind fun r11 => (boolOf r11).bind fun b12 => cond b12 (some (.ret (.lit (.bool false)), h10)) ((lenA E 29 (l1.getD 4 .dead)).bind fun n13 => (lenA E 29 (l2.getD 4 .dead)).bind fun n14 => (binAV E .neq 3 (.lit (.int .i64 n13)) (.lit (.int .i64 n14))).bind fun r15 => (boolOf r15).bind fun b16 => cond b16 (some (.ret (.lit (.bool false)), h10)) (Lp23_0 F n h0 n h10 (l1.getD 0 .dead) (l1.getD 1 .dead) (l1.getD 2 .dead) (l1.getD 3 .dead) (l1.getD 4 .dead) (l2.getD 0 .dead) (l2.getD 1 .dead) (l2.getD 2 .dead) (l2.getD 3 .dead) (l2.getD 4 .dead) (.lit (.int .i64 0))))) (fun _ _ _ => none) (fun _ _ => none))))) none) none := by kernel_rfl
-- 24 limbeck/limbecklaw04.Much
noncomputable def Lp24_1 (m : Nat) (h : Heap) (x25 : AV) (x26 : AV) (x27 : AV) (x28 : AV) (x29 : AV) (x30 : AV) (x31 : AV) : R := loopAt E 24 Try.f24 F n h0 [.r, .r, .r, .l, .r, .b] m { s := lkS [(1, .loc [.v x25, .v x26, .v x27, .v x28, .v x29]), (3, .c (.v x30)), (5, .c (.v x31))], h := h }
theorem Lp24_1_zero (h : Heap) (x25 : AV) (x26 : AV) (x27 : AV) (x28 : AV) (x29 : AV) (x30 : AV) (x31 : AV) : Lp24_1 F n h0 0 h x25 x26 x27 x28 x29 x30 x31 = none := by kernel_rfl
theorem Lp24_1_succ (m : Nat) (h : Heap) (x25 : AV) (x26 : AV) (x27 : AV) (x28 : AV) (x29 : AV) (x30 : AV) (x31 : AV) : Lp24_1 F n h0 (m + 1) h x25 x26 x27 x28 x29 x30 x31 = (lenA E 29 x29).bind fun n32 => (binAV E .lss 3 x31 (.lit (.int .i64 n32))).bind fun r33 => (boolOf r33).bind fun b34 => cond b34 ((binAV E .lss 3 x30 (.lit (.int .i64 3000))).bind fun r35 => (boolOf r35).bind fun b36 => cond b36 ((indexA 5 x29 x31).bind fun e37 => (partA true 5 0 e37).bind fun v38 => onOut (F 24 [v38] h) (fun a39 h40 => (binAV E .add 3 x30 a39).bind fun r41 => (binAV E .add 3 x31 (.lit (.int .i64 1))).bind fun r42 => Lp24_1 F n h0 m h40 x25 x26 x27 x28 x29 r41 r42) (fun _ _ _ => none) (fun _ _ => none)) (some (.ret x30, h))) (some (.ret x30, h)) := by kernel_rfl
noncomputable def Lp24_0 (m : Nat) (h : Heap) (x7 : AV) (x8 : AV) (x9 : AV) (x10 : AV) (x11 : AV) (x12 : AV) (x13 : AV) : R := loopAt E 24 Try.f24 F n h0 [.r, .r, .l, .r, .b] m { s := lkS [(1, .loc [.v x7, .v x8, .v x9, .v x10, .v x11]), (3, .c (.v x12)), (4, .c (.v x13))], h := h }
theorem Lp24_0_zero (h : Heap) (x7 : AV) (x8 : AV) (x9 : AV) (x10 : AV) (x11 : AV) (x12 : AV) (x13 : AV) : Lp24_0 F n h0 0 h x7 x8 x9 x10 x11 x12 x13 = none := by kernel_rfl
theorem Lp24_0_succ (m : Nat) (h : Heap) (x7 : AV) (x8 : AV) (x9 : AV) (x10 : AV) (x11 : AV) (x12 : AV) (x13 : AV) : Lp24_0 F n h0 (m + 1) h x7 x8 x9 x10 x11 x12 x13 = (lenA E 31 x10).bind fun n14 => (binAV E .lss 3 x13 (.lit (.int .i64 n14))).bind fun r15 => (boolOf r15).bind fun b16 => cond b16 ((binAV E .lss 3 x13 (.lit (.int .i64 1000))).bind fun r17 => (boolOf r17).bind fun b18 => cond b18 ((indexA 1 x10 x13).bind fun e19 => (partA false 1 0 e19).bind fun v20 => (lenA E 9 v20).bind fun n21 => (binAV E .quo 3 (.lit (.int .i64 n21)) (.lit (.int .i64 8))).bind fun r22 => (binAV E .add 3 x12 r22).bind fun r23 => (binAV E .add 3 x13 (.lit (.int .i64 1))).bind fun r24 => Lp24_0 F n h0 m h x7 x8 x9 x10 x11 r23 r24) (Lp24_1 F n h0 n h x7 x8 x9 x10 x11 x12 (.lit (.int .i64 0)))) (Lp24_1 F n h0 n h x7 x8 x9 x10 x11 x12 (.lit (.int .i64 0))) := by kernel_rfl
theorem nf24 (a0_ : AV) : runF E 24 Try.f24 F n [a0_] h0 = (aggOf a0_).bind fun l1 => cond (Nat.beq l1.length 5) ((lenA E 9 (l1.getD 2 .dead)).bind fun n2 => (binAV E .quo 3 (.lit (.int .i64 n2)) (.lit (.int .i64 8))).bind fun r3 => (binAV E .add 3 (.lit (.int .i64 1)) r3).bind fun r4 => (lenA E 31 (l1.getD 3 .dead)).bind fun n5 => (binAV E .add 3 r4 (.lit (.int .i64 n5))).bind fun r6 => Lp24_0 F n h0 n h0 (l1.getD 0 .dead) (l1.getD 1 .dead) (l1.getD 2 .dead) (l1.getD 3 .dead) (l1.getD 4 .dead) r6 (.lit (.int .i64 0))) none := by kernel_rfl
-- 25 limbeck/limbeckref04.Right
noncomputable def Lp25_0 (m : Nat) (h : Heap) (x2 : AV) (x3 : AV) (x4 : AV) (x5 : AV) (x6 : AV) (x7 : AV) : R := loopAt E 25 Try.f25 F n h0 [.r, .l, .r, .b] m { s := lkS [(1, .loc [.v x2, .v x3, .v x4, .v x5, .v x6]), (3, .c (.v x7))], h := h }
theorem Lp25_0_zero (h : Heap) (x2 : AV) (x3 : AV) (x4 : AV) (x5 : AV) (x6 : AV) (x7 : AV) : Lp25_0 F n h0 0 h x2 x3 x4 x5 x6 x7 = none := by kernel_rfl
theorem Lp25_0_succ (m : Nat) (h : Heap) (x2 : AV) (x3 : AV) (x4 : AV) (x5 : AV) (x6 : AV) (x7 : AV) : Lp25_0 F n h0 (m + 1) h x2 x3 x4 x5 x6 x7 = (lenA E 29 x6).bind fun n8 => (binAV E .lss 3 x7 (.lit (.int .i64 n8))).bind fun r9 => (boolOf r9).bind fun b10 => cond b10 ((indexA 5 x6 x7).bind fun e11 => (partA true 5 0 e11).bind fun v12 => onOut (F 25 [v12] h) (fun a13 h14 => (unAV .not a13).bind fun r15 => (boolOf r15).bind fun b16 => cond b16 (some (.ret (.lit (.bool false)), h14)) ((binAV E .add 3 x7 (.lit (.int .i64 1))).bind fun r17 => Lp25_0 F n h0 m h14 x2 x3 x4 x5 x6 r17)) (fun _ _ _ => none) (fun _ _ => none)) ((binAV E .neq 3 x2 (.lit (.int .i64 6))).bind fun r18 => (boolOf r18).bind fun b19 => cond b19 ((binAV E .neq 9 x4 (.lit (.string ByteArray.empty))).bind fun r20 => (boolOf r20).bind fun b21 => cond b21 (some (.ret (.lit (.bool false)), h)) ((binAV E .neq 3 x2 (.lit (.int .i64 9))).bind fun r22 => (boolOf r22).bind fun b23 => cond b23 ((binAV E .neq 3 x3 (.lit (.int .i64 0))).bind fun r24 => (boolOf r24).bind fun b25 => cond b25 (some (.ret (.lit (.bool false)), h)) ((binAV E .neq 3 x2 (.lit (.int .i64 8))).bind fun r26 => (boolOf r26).bind fun b27 => cond b27 ((lenA E 31 x5).bind fun n28 => (binAV E .gtr 3 (.lit (.int .i64 n28)) (.lit (.int .i64 0))).bind fun r29 => (boolOf r29).bind fun b30 => cond b30 (some (.ret (.lit (.bool false)), h)) ((binAV E .geq 3 x2 (.lit (.int .i64 1))).bind fun r31 => (boolOf r31).bind fun b32 => cond b32 ((binAV E .leq 3 x2 (.lit (.int .i64 5))).bind fun r33 => (boolOf r33).bind fun b34 => cond b34 ((lenA E 29 x6).bind fun n35 => (binAV E .eql 3 (.lit (.int .i64 n35)) (.lit (.int .i64 0))).bind fun r36 => some (.ret r36, h)) ((binAV E .eql 3 x2 (.lit (.int .i64 6))).bind fun r37 => (boolOf r37).bind fun b38 => cond b38 (onOut (F 80 [x4] h) (fun a39 h40 => (boolOf a39).bind fun b41 => cond b41 ((lenA E 29 x6).bind fun n42 => (binAV E .eql 3 (.lit (.int .i64 n42)) (.lit (.int .i64 0))).bind fun r43 => some (.ret r43, h40)) (some (.ret (.lit (.bool false)), h40))) (fun _ _ _ => none) (fun _ _ => none)) ((binAV E .eql 3 x2 (.lit (.int .i64 9))).bind fun r44 => (boolOf r44).bind fun b45 => cond b45 ((binAV E .geq 3 x3 (.lit (.int .i64 0))).bind fun r46 => (boolOf r46).bind fun b47 => cond b47 ((binAV E .leq 3 x3 (.lit (.int .i64 1073741824))).bind fun r48 => (boolOf r48).bind fun b49 => cond b49 ((lenA E 29 x6).bind fun n50 => (binAV E .eql 3 (.lit (.int .i64 n50)) (.lit (.int .i64 0))).bind fun r51 => some (.ret r51, h)) (some (.ret (.lit (.bool false)), h))) (some (.ret (.lit (.bool false)), h))) ((binAV E .eql 3 x2 (.lit (.int .i64 7))).bind fun r52 => (boolOf r52).bind fun b53 => cond b53 ((lenA E 29 x6).bind fun n54 => (binAV E .eql 3 (.lit (.int .i64 n54)) (.lit (.int .i64 2))).bind fun r55 => some (.ret r55, h)) ((binAV E .eql 3 x2 (.lit (.int .i64 8))).bind fun r56 => (boolOf r56).bind fun b57 => cond b57 (onOut (F 81 [x5] h) (fun a58 h59 => (boolOf a58).bind fun b60 => cond b60 ((lenA E 31 x5).bind fun n61 => (lenA E 29 x6).bind fun n62 => (binAV E .eql 3 (.lit (.int .i64 n61)) (.lit (.int .i64 n62))).bind fun r63 => some (.ret r63, h59)) (some (.ret (.lit (.bool false)), h59))) (fun _ _ _ => none) (fun _ _ => none)) (some (.ret (.lit (.bool false)), h))))))) ((binAV E .eql 3 x2 (.lit (.int .i64 6))).bind fun r64 => (boolOf r64).bind fun b65 => cond b65 (onOut (F 80 [x4] h) (fun a66 h67 => (boolOf a66).bind fun b68 => cond b68 ((lenA E 29 x6).bind fun n69 => (binAV E .eql 3 (.lit (.int .i64 n69)) (.lit (.int .i64 0))).bind fun r70 => some (.ret r70, h67)) (some (.ret (.lit (.bool false)), h67))) (fun _ _ _ => none) (fun _ _ => none)) ((binAV E .eql 3 x2 (.lit (.int .i64 9))).bind fun r71 => (boolOf r71).bind fun b72 => cond b72 ((binAV E .geq 3 x3 (.lit (.int .i64 0))).bind fun r73 => (boolOf r73).bind fun b74 => cond b74 ((binAV E .leq 3 x3 (.lit (.int .i64 1073741824))).bind fun r75 => (boolOf r75).bind fun b76 => cond b76 ((lenA E 29 x6).bind fun n77 => (binAV E .eql 3 (.lit (.int .i64 n77)) (.lit (.int .i64 0))).bind fun r78 => some (.ret r78, h)) (some (.ret (.lit (.bool false)), h))) (some (.ret (.lit (.bool false)), h))) ((binAV E .eql 3 x2 (.lit (.int .i64 7))).bind fun r79 => (boolOf r79).bind fun b80 => cond b80 ((lenA E 29 x6).bind fun n81 => (binAV E .eql 3 (.lit (.int .i64 n81)) (.lit (.int .i64 2))).bind fun r82 => some (.ret r82, h)) ((binAV E .eql 3 x2 (.lit (.int .i64 8))).bind fun r83 => (boolOf r83).bind fun b84 => cond b84 (onOut (F 81 [x5] h) (fun a85 h86 => (boolOf a85).bind fun b87 => cond b87 ((lenA E 31 x5).bind fun n88 => (lenA E 29 x6).bind fun n89 => (binAV E .eql 3 (.lit (.int .i64 n88)) (.lit (.int .i64 n89))).bind fun r90 => some (.ret r90, h86)) (some (.ret (.lit (.bool false)), h86))) (fun _ _ _ => none) (fun _ _ => none)) (some (.ret (.lit (.bool false)), h)))))))) ((binAV E .geq 3 x2 (.lit (.int .i64 1))).bind fun r91 => (boolOf r91).bind fun b92 => cond b92 ((binAV E .leq 3 x2 (.lit (.int .i64 5))).bind fun r93 => (boolOf r93).bind fun b94 => cond b94 ((lenA E 29 x6).bind fun n95 => (binAV E .eql 3 (.lit (.int .i64 n95)) (.lit (.int .i64 0))).bind fun r96 => some (.ret r96, h)) ((binAV E .eql 3 x2 (.lit (.int .i64 6))).bind fun r97 => (boolOf r97).bind fun b98 => cond b98 (onOut (F 80 [x4] h) (fun a99 h100 => (boolOf a99).bind fun b101 => cond b101 ((lenA E 29 x6).bind fun n102 => (binAV E .eql 3 (.lit (.int .i64 n102)) (.lit (.int .i64 0))).bind fun r103 => some (.ret r103, h100)) (some (.ret (.lit (.bool false)), h100))) (fun _ _ _ => none) (fun _ _ => none)) ((binAV E .eql 3 x2 (.lit (.int .i64 9))).bind fun r104 => (boolOf r104).bind fun b105 => cond b105 ((binAV E .geq 3 x3 (.lit (.int .i64 0))).bind fun r106 => (boolOf r106).bind fun b107 => cond b107 ((binAV E .leq 3 x3 (.lit (.int .i64 1073741824))).bind fun r108 => (boolOf r108).bind fun b109 => cond b109 ((lenA E 29 x6).bind fun n110 => (binAV E .eql 3 (.lit (.int .i64 n110)) (.lit (.int .i64 0))).bind fun r111 => some (.ret r111, h)) (some (.ret (.lit (.bool false)), h))) (some (.ret (.lit (.bool false)), h))) ((binAV E .eql 3 x2 (.lit (.int .i64 7))).bind fun r112 => (boolOf r112).bind fun b113 => cond b113 ((lenA E 29 x6).bind fun n114 => (binAV E .eql 3 (.lit (.int .i64 n114)) (.lit (.int .i64 2))).bind fun r115 => some (.ret r115, h)) ((binAV E .eql 3 x2 (.lit (.int .i64 8))).bind fun r116 => (boolOf r116).bind fun b117 => cond b117 (onOut (F 81 [x5] h) (fun a118 h119 => (boolOf a118).bind fun b120 => cond b120 ((lenA E 31 x5).bind fun n121 => (lenA E 29 x6).bind fun n122 => (binAV E .eql 3 (.lit (.int .i64 n121)) (.lit (.int .i64 n122))).bind fun r123 => some (.ret r123, h119)) (some (.ret (.lit (.bool false)), h119))) (fun _ _ _ => none) (fun _ _ => none)) (some (.ret (.lit (.bool false)), h))))))) ((binAV E .eql 3 x2 (.lit (.int .i64 6))).bind fun r124 => (boolOf r124).bind fun b125 => cond b125 (onOut (F 80 [x4] h) (fun a126 h127 => (boolOf a126).bind fun b128 => cond b128 ((lenA E 29 x6).bind fun n129 => (binAV E .eql 3 (.lit (.int .i64 n129)) (.lit (.int .i64 0))).bind fun r130 => some (.ret r130, h127)) (some (.ret (.lit (.bool false)), h127))) (fun _ _ _ => none) (fun _ _ => none)) ((binAV E .eql 3 x2 (.lit (.int .i64 9))).bind fun r131 => (boolOf r131).bind fun b132 => cond b132 ((binAV E .geq 3 x3 (.lit (.int .i64 0))).bind fun r133 => (boolOf r133).bind fun b134 => cond b134 ((binAV E .leq 3 x3 (.lit (.int .i64 1073741824))).bind fun r135 => (boolOf r135).bind fun b136 => cond b136 ((lenA E 29 x6).bind fun n137 => (binAV E .eql 3 (.lit (.int .i64 n137)) (.lit (.int .i64 0))).bind fun r138 => some (.ret r138, h)) (some (.ret (.lit (.bool false)), h))) (some (.ret (.lit (.bool false)), h))) ((binAV E .eql 3 x2 (.lit (.int .i64 7))).bind fun r139 => (boolOf r139).bind fun b140 => cond b140 ((lenA E 29 x6).bind fun n141 => (binAV E .eql 3 (.lit (.int .i64 n141)) (.lit (.int .i64 2))).bind fun r142 => some (.ret r142, h)) ((binAV E .eql 3 x2 (.lit (.int .i64 8))).bind fun r143 => (boolOf r143).bind fun b144 => cond b144 (onOut (F 81 [x5] h) (fun a145 h146 => (boolOf a145).bind fun b147 => cond b147 ((lenA E 31 x5).bind fun n148 => (lenA E 29 x6).bind fun n149 => (binAV E .eql 3 (.lit (.int .i64 n148)) (.lit (.int .i64 n149))).bind fun r150 => some (.ret r150, h146)) (some (.ret (.lit (.bool false)), h146))) (fun _ _ _ => none) (fun _ _ => none)) (some (.ret (.lit (.bool false)), h))))))))) ((binAV E .neq 3 x2 (.lit (.int .i64 8))).bind fun r151 => (boolOf r151).bind fun b152 => cond b152 ((lenA E 31 x5).bind fun n153 => (binAV E .gtr 3 (.lit (.int .i64 n153)) (.lit (.int .i64 0))).bind fun r154 => (boolOf r154).bind fun b155 => cond b155 (some (.ret (.lit (.bool false)), h)) ((binAV E .geq 3 x2 (.lit (.int .i64 1))).bind fun r156 => (boolOf r156).bind fun b157 => cond b157 ((binAV E .leq 3 x2 (.lit (.int .i64 5))).bind fun r158 => (boolOf r158).bind fun b159 => cond b159 ((lenA E 29 x6).bind fun n160 => (binAV E .eql 3 (.lit (.int .i64 n160)) (.lit (.int .i64 0))).bind fun r161 => some (.ret r161, h)) ((binAV E .eql 3 x2 (.lit (.int .i64 6))).bind fun r162 => (boolOf r162).bind fun b163 => cond b163 (onOut (F 80 [x4] h) (fun a164 h165 => (boolOf a164).bind fun b166 => cond b166 ((lenA E 29 x6).bind fun n167 => (binAV E .eql 3 (.lit (.int .i64 n167)) (.lit (.int .i64 0))).bind fun r168 => some (.ret r168, h165)) (some (.ret (.lit (.bool false)), h165))) (fun _ _ _ => none) (fun _ _ => none)) ((binAV E .eql 3 x2 (.lit (.int .i64 9))).bind fun r169 => (boolOf r169).bind fun b170 => cond b170 ((binAV E .geq 3 x3 (.lit (.int .i64 0))).bind fun r171 => (boolOf r171).bind fun b172 => cond b172 ((binAV E .leq 3 x3 (.lit (.int .i64 1073741824))).bind fun r173 => (boolOf r173).bind fun b174 => cond b174 ((lenA E 29 x6).bind fun n175 => (binAV E .eql 3 (.lit (.int .i64 n175)) (.lit (.int .i64 0))).bind fun r176 => some (.ret r176, h)) (some (.ret (.lit (.bool false)), h))) (some (.ret (.lit (.bool false)), h))) ((binAV E .eql 3 x2 (.lit (.int .i64 7))).bind fun r177 => (boolOf r177).bind fun b178 => cond b178 ((lenA E 29 x6).bind fun n179 => (binAV E .eql 3 (.lit (.int .i64 n179)) (.lit (.int .i64 2))).bind fun r180 => some (.ret r180, h)) ((binAV E .eql 3 x2 (.lit (.int .i64 8))).bind fun r181 => (boolOf r181).bind fun b182 => cond b182 (onOut (F 81 [x5] h) (fun a183 h184 => (boolOf a183).bind fun b185 => cond b185 ((lenA E 31 x5).bind fun n186 => (lenA E 29 x6).bind fun n187 => (binAV E .eql 3 (.lit (.int .i64 n186)) (.lit (.int .i64 n187))).bind fun r188 => some (.ret r188, h184)) (some (.ret (.lit (.bool false)), h184))) (fun _ _ _ => none) (fun _ _ => none)) (some (.ret (.lit (.bool false)), h))))))) ((binAV E .eql 3 x2 (.lit (.int .i64 6))).bind fun r189 => (boolOf r189).bind fun b190 => cond b190 (onOut (F 80 [x4] h) (fun a191 h192 => (boolOf a191).bind fun b193 => cond b193 ((lenA E 29 x6).bind fun n194 => (binAV E .eql 3 (.lit (.int .i64 n194)) (.lit (.int .i64 0))).bind fun r195 => some (.ret r195, h192)) (some (.ret (.lit (.bool false)), h192))) (fun _ _ _ => none) (fun _ _ => none)) ((binAV E .eql 3 x2 (.lit (.int .i64 9))).bind fun r196 => (boolOf r196).bind fun b197 => cond b197 ((binAV E .geq 3 x3 (.lit (.int .i64 0))).bind fun r198 => (boolOf r198).bind fun b199 => cond b199 ((binAV E .leq 3 x3 (.lit (.int .i64 1073741824))).bind fun r200 => (boolOf r200).bind fun b201 => cond b201 ((lenA E 29 x6).bind fun n202 => (binAV E .eql 3 (.lit (.int .i64 n202)) (.lit (.int .i64 0))).bind fun r203 => some (.ret r203, h)) (some (.ret (.lit (.bool false)), h))) (some (.ret (.lit (.bool false)), h))) ((binAV E .eql 3 x2 (.lit (.int .i64 7))).bind fun r204 => (boolOf r204).bind fun b205 => cond b205 ((lenA E 29 x6).bind fun n206 => (binAV E .eql 3 (.lit (.int .i64 n206)) (.lit (.int .i64 2))).bind fun r207 => some (.ret r207, h)) ((binAV E .eql 3 x2 (.lit (.int .i64 8))).bind fun r208 => (boolOf r208).bind fun b209 => cond b209 (onOut (F 81 [x5] h) (fun a210 h211 => (boolOf a210).bind fun b212 => cond b212 ((lenA E 31 x5).bind fun n213 => (lenA E 29 x6).bind fun n214 => (binAV E .eql 3 (.lit (.int .i64 n213)) (.lit (.int .i64 n214))).bind fun r215 => some (.ret r215, h211)) (some (.ret (.lit (.bool false)), h211))) (fun _ _ _ => none) (fun _ _ => none)) (some (.ret (.lit (.bool false)), h)))))))) ((binAV E .geq 3 x2 (.lit (.int .i64 1))).bind fun r216 => (boolOf r216).bind fun b217 => cond b217 ((binAV E .leq 3 x2 (.lit (.int .i64 5))).bind fun r218 => (boolOf r218).bind fun b219 => cond b219 ((lenA E 29 x6).bind fun n220 => (binAV E .eql 3 (.lit (.int .i64 n220)) (.lit (.int .i64 0))).bind fun r221 => some (.ret r221, h)) ((binAV E .eql 3 x2 (.lit (.int .i64 6))).bind fun r222 => (boolOf r222).bind fun b223 => cond b223 (onOut (F 80 [x4] h) (fun a224 h225 => (boolOf a224).bind fun b226 => cond b226 ((lenA E 29 x6).bind fun n227 => (binAV E .eql 3 (.lit (.int .i64 n227)) (.lit (.int .i64 0))).bind fun r228 => some (.ret r228, h225)) (some (.ret (.lit (.bool false)), h225))) (fun _ _ _ => none) (fun _ _ => none)) ((binAV E .eql 3 x2 (.lit (.int .i64 9))).bind fun r229 => (boolOf r229).bind fun b230 => cond b230 ((binAV E .geq 3 x3 (.lit (.int .i64 0))).bind fun r231 => (boolOf r231).bind fun b232 => cond b232 ((binAV E .leq 3 x3 (.lit (.int .i64 1073741824))).bind fun r233 => (boolOf r233).bind fun b234 => cond b234 ((lenA E 29 x6).bind fun n235 => (binAV E .eql 3 (.lit (.int .i64 n235)) (.lit (.int .i64 0))).bind fun r236 => some (.ret r236, h)) (some (.ret (.lit (.bool false)), h))) (some (.ret (.lit (.bool false)), h))) ((binAV E .eql 3 x2 (.lit (.int .i64 7))).bind fun r237 => (boolOf r237).bind fun b238 => cond b238 ((lenA E 29 x6).bind fun n239 => (binAV E .eql 3 (.lit (.int .i64 n239)) (.lit (.int .i64 2))).bind fun r240 => some (.ret r240, h)) ((binAV E .eql 3 x2 (.lit (.int .i64 8))).bind fun r241 => (boolOf r241).bind fun b242 => cond b242 (onOut (F 81 [x5] h) (fun a243 h244 => (boolOf a243).bind fun b245 => cond b245 ((lenA E 31 x5).bind fun n246 => (lenA E 29 x6).bind fun n247 => (binAV E .eql 3 (.lit (.int .i64 n246)) (.lit (.int .i64 n247))).bind fun r248 => some (.ret r248, h244)) (some (.ret (.lit (.bool false)), h244))) (fun _ _ _ => none) (fun _ _ => none)) (some (.ret (.lit (.bool false)), h))))))) ((binAV E .eql 3 x2 (.lit (.int .i64 6))).bind fun r249 => (boolOf r249).bind fun b250 => cond b250 (onOut (F 80 [x4] h) (fun a251 h252 => (boolOf a251).bind fun b253 => cond b253 ((lenA E 29 x6).bind fun n254 => (binAV E .eql 3 (.lit (.int .i64 n254)) (.lit (.int .i64 0))).bind fun r255 => some (.ret r255, h252)) (some (.ret (.lit (.bool false)), h252))) (fun _ _ _ => none) (fun _ _ => none)) ((binAV E .eql 3 x2 (.lit (.int .i64 9))).bind fun r256 => (boolOf r256).bind fun b257 => cond b257 ((binAV E .geq 3 x3 (.lit (.int .i64 0))).bind fun r258 => (boolOf r258).bind fun b259 => cond b259 ((binAV E .leq 3 x3 (.lit (.int .i64 1073741824))).bind fun r260 => (boolOf r260).bind fun b261 => cond b261 ((lenA E 29 x6).bind fun n262 => (binAV E .eql 3 (.lit (.int .i64 n262)) (.lit (.int .i64 0))).bind fun r263 => some (.ret r263, h)) (some (.ret (.lit (.bool false)), h))) (some (.ret (.lit (.bool false)), h))) ((binAV E .eql 3 x2 (.lit (.int .i64 7))).bind fun r264 => (boolOf r264).bind fun b265 => cond b265 ((lenA E 29 x6).bind fun n266 => (binAV E .eql 3 (.lit (.int .i64 n266)) (.lit (.int .i64 2))).bind fun r267 => some (.ret r267, h)) ((binAV E .eql 3 x2 (.lit (.int .i64 8))).bind fun r268 => (boolOf r268).bind fun b269 => cond b269 (onOut (F 81 [x5] h) (fun a270 h271 => (boolOf a270).bind fun b272 => cond b272 ((lenA E 31 x5).bind fun n273 => (lenA E 29 x6).bind fun n274 => (binAV E .eql 3 (.lit (.int .i64 n273)) (.lit (.int .i64 n274))).bind fun r275 => some (.ret r275, h271)) (some (.ret (.lit (.bool false)), h271))) (fun _ _ _ => none) (fun _ _ => none)) (some (.ret (.lit (.bool false)), h)))))))))) ((binAV E .neq 3 x2 (.lit (.int .i64 9))).bind fun r276 => (boolOf r276).bind fun b277 => cond b277 ((binAV E .neq 3 x3 (.lit (.int .i64 0))).bind fun r278 => (boolOf r278).bind fun b279 => cond b279 (some (.ret (.lit (.bool false)), h)) ((binAV E .neq 3 x2 (.lit (.int .i64 8))).bind fun r280 => (boolOf r280).bind fun b281 => cond b281 ((lenA E 31 x5).bind fun n282 => (binAV E .gtr 3 (.lit (.int .i64 n282)) (.lit (.int .i64 0))).bind fun r283 => (boolOf r283).bind fun b284 => cond b284 (some (.ret (.lit (.bool false)), h)) ((binAV E .geq 3 x2 (.lit (.int .i64 1))).bind fun r285 => (boolOf r285).bind fun b286 => cond b286 ((binAV E .leq 3 x2 (.lit (.int .i64 5))).bind fun r287 => (boolOf r287).bind fun b288 => cond b288 ((lenA E 29 x6).bind fun n289 => (binAV E .eql 3 (.lit (.int .i64 n289)) (.lit (.int .i64 0))).bind fun r290 => some (.ret r290, h)) ((binAV E .eql 3 x2 (.lit (.int .i64 6))).bind fun r291 => (boolOf r291).bind fun b292 => cond b292 (onOut (F 80 [x4] h) (fun a293 h294 => (boolOf a293).bind fun b295 => cond b295 ((lenA E 29 x6).bind fun n296 => (binAV E .eql 3 (.lit (.int .i64 n296)) (.lit (.int .i64 0))).bind fun r297 => some (.ret r297, h294)) (some (.ret (.lit (.bool false)), h294))) (fun _ _ _ => none) (fun _ _ => none)) ((binAV E .eql 3 x2 (.lit (.int .i64 9))).bind fun r298 => (boolOf r298).bind fun b299 => cond b299 ((binAV E .geq 3 x3 (.lit (.int .i64 0))).bind fun r300 => (boolOf r300).bind fun b301 => cond b301 ((binAV E .leq 3 x3 (.lit (.int .i64 1073741824))).bind fun r302 => (boolOf r302).bind fun b303 => cond b303 ((lenA E 29 x6).bind fun n304 => (binAV E .eql 3 (.lit (.int .i64 n304)) (.lit (.int .i64 0))).bind fun r305 => some (.ret r305, h)) (some (.ret (.lit (.bool false)), h))) (some (.ret (.lit (.bool false)), h))) ((binAV E .eql 3 x2 (.lit (.int .i64 7))).bind fun r306 => (boolOf r306).bind fun b307 => cond b307 ((lenA E 29 x6).bind fun n308 => (binAV E .eql 3 (.lit (.int .i64 n308)) (.lit (.int .i64 2))).bind fun r309 => some (.ret r309, h)) ((binAV E .eql 3 x2 (.lit (.int .i64 8))).bind fun r310 => (boolOf r310).bind fun b311 => cond b311 (onOut (F 81 [x5] h) (fun a312 h313 => (boolOf a312).bind fun b314 => cond b314 ((lenA E 31 x5).bind fun n315 => (lenA E 29 x6).bind fun n316 => (binAV E .eql 3 (.lit (.int .i64 n315)) (.lit (.int .i64 n316))).bind fun r317 => some (.ret r317, h313)) (some (.ret (.lit (.bool false)), h313))) (fun _ _ _ => none) (fun _ _ => none)) (some (.ret (.lit (.bool false)), h))))))) ((binAV E .eql 3 x2 (.lit (.int .i64 6))).bind fun r318 => (boolOf r318).bind fun b319 => cond b319 (onOut (F 80 [x4] h) (fun a320 h321 => (boolOf a320).bind fun b322 => cond b322 ((lenA E 29 x6).bind fun n323 => (binAV E .eql 3 (.lit (.int .i64 n323)) (.lit (.int .i64 0))).bind fun r324 => some (.ret r324, h321)) (some (.ret (.lit (.bool false)), h321))) (fun _ _ _ => none) (fun _ _ => none)) ((binAV E .eql 3 x2 (.lit (.int .i64 9))).bind fun r325 => (boolOf r325).bind fun b326 => cond b326 ((binAV E .geq 3 x3 (.lit (.int .i64 0))).bind fun r327 => (boolOf r327).bind fun b328 => cond b328 ((binAV E .leq 3 x3 (.lit (.int .i64 1073741824))).bind fun r329 => (boolOf r329).bind fun b330 => cond b330 ((lenA E 29 x6).bind fun n331 => (binAV E .eql 3 (.lit (.int .i64 n331)) (.lit (.int .i64 0))).bind fun r332 => some (.ret r332, h)) (some (.ret (.lit (.bool false)), h))) (some (.ret (.lit (.bool false)), h))) ((binAV E .eql 3 x2 (.lit (.int .i64 7))).bind fun r333 => (boolOf r333).bind fun b334 => cond b334 ((lenA E 29 x6).bind fun n335 => (binAV E .eql 3 (.lit (.int .i64 n335)) (.lit (.int .i64 2))).bind fun r336 => some (.ret r336, h)) ((binAV E .eql 3 x2 (.lit (.int .i64 8))).bind fun r337 => (boolOf r337).bind fun b338 => cond b338 (onOut (F 81 [x5] h) (fun a339 h340 => (boolOf a339).bind fun b341 => cond b341 ((lenA E 31 x5).bind fun n342 => (lenA E 29 x6).bind fun n343 => (binAV E .eql 3 (.lit (.int .i64 n342)) (.lit (.int .i64 n343))).bind fun r344 => some (.ret r344, h340)) (some (.ret (.lit (.bool false)), h340))) (fun _ _ _ => none) (fun _ _ => none)) (some (.ret (.lit (.bool false)), h)))))))) ((binAV E .geq 3 x2 (.lit (.int .i64 1))).bind fun r345 => (boolOf r345).bind fun b346 => cond b346 ((binAV E .leq 3 x2 (.lit (.int .i64 5))).bind fun r347 => (boolOf r347).bind fun b348 => cond b348 ((lenA E 29 x6).bind fun n349 => (binAV E .eql 3 (.lit (.int .i64 n349)) (.lit (.int .i64 0))).bind fun r350 => some (.ret r350, h)) ((binAV E .eql 3 x2 (.lit (.int .i64 6))).bind fun r351 => (boolOf r351).bind fun b352 => cond b352 (onOut (F 80 [x4] h) (fun a353 h354 => (boolOf a353).bind fun b355 => cond b355 ((lenA E 29 x6).bind fun n356 => (binAV E .eql 3 (.lit (.int .i64 n356)) (.lit (.int .i64 0))).bind fun r357 => some (.ret r357, h354)) (some (.ret (.lit (.bool false)), h354))) (fun _ _ _ => none) (fun _ _ => none)) ((binAV E .eql 3 x2 (.lit (.int .i64 9))).bind fun r358 => (boolOf r358).bind fun b359 => cond b359 ((binAV E .geq 3 x3 (.lit (.int .i64 0))).bind fun r360 => (boolOf r360).bind fun b361 => cond b361 ((binAV E .leq 3 x3 (.lit (.int .i64 1073741824))).bind fun r362 => (boolOf r362).bind fun b363 => cond b363 ((lenA E 29 x6).bind fun n364 => (binAV E .eql 3 (.lit (.int .i64 n364)) (.lit (.int .i64 0))).bind fun r365 => some (.ret r365, h)) (some (.ret (.lit (.bool false)), h))) (some (.ret (.lit (.bool false)), h))) ((binAV E .eql 3 x2 (.lit (.int .i64 7))).bind fun r366 => (boolOf r366).bind fun b367 => cond b367 ((lenA E 29 x6).bind fun n368 => (binAV E .eql 3 (.lit (.int .i64 n368)) (.lit (.int .i64 2))).bind fun r369 => some (.ret r369, h)) ((binAV E .eql 3 x2 (.lit (.int .i64 8))).bind fun r370 => (boolOf r370).bind fun b371 => cond b371 (onOut (F 81 [x5] h) (fun a372 h373 => (boolOf a372).bind fun b374 => cond b374 ((lenA E 31 x5).bind fun n375 => (lenA E 29 x6).bind fun n376 => (binAV E .eql 3 (.lit (.int .i64 n375)) (.lit (.int .i64 n376))).bind fun r377 => some (.ret r377, h373)) (some (.ret (.lit (.bool false)), h373))) (fun _ _ _ => none) (fun _ _ => none)) (some (.ret (.lit (.bool false)), h))))))) ((binAV E .eql 3 x2 (.lit (.int .i64 6))).bind fun r378 => (boolOf r378).bind fun b379 => cond b379 (onOut (F 80 [x4] h) (fun a380 h381 => (boolOf a380).bind fun b382 => cond b382 ((lenA E 29 x6).bind fun n383 => (binAV E .eql 3 (.lit (.int .i64 n383)) (.lit (.int .i64 0))).bind fun r384 => some (.ret r384, h381)) (some (.ret (.lit (.bool false)), h381))) (fun _ _ _ => none) (fun _ _ => none)) ((binAV E .eql 3 x2 (.lit (.int .i64 9))).bind fun r385 => (boolOf r385).bind fun b386 => cond b386 ((binAV E .geq 3 x3 (.lit (.int .i64 0))).bind fun r387 => (boolOf r387).bind fun b388 => cond b388 ((binAV E .leq 3 x3 (.lit (.int .i64 1073741824))).bind fun r389 => (boolOf r389).bind fun b390 => cond b390 ((lenA E 29 x6).bind fun n391 => (binAV E .eql 3 (.lit (.int .i64 n391)) (.lit (.int .i64 0))).bind fun r392 => some (.ret r392, h)) (some (.ret (.lit (.bool false)), h))) (some (.ret (.lit (.bool false)), h))) ((binAV E .eql 3 x2 (.lit (.int .i64 7))).bind fun r393 => (boolOf r393).bind fun b394 => cond b394 ((lenA E 29 x6).bind fun n395 => (binAV E .eql 3 (.lit (.int .i64 n395)) (.lit (.int .i64 2))).bind fun r396 => some (.ret r396, h)) ((binAV E .eql 3 x2 (.lit (.int .i64 8))).bind fun r397 => (boolOf r397).bind fun b398 => cond b398 (onOut (F 81 [x5] h) (fun a399 h400 => (boolOf a399).bind fun b401 => cond b401 ((lenA E 31 x5).bind fun n402 => (lenA E 29 x6).bind fun n403 => (binAV E .eql 3 (.lit (.int .i64 n402)) (.lit (.int .i64 n403))).bind fun r404 => some (.ret r404, h400)) (some (.ret (.lit (.bool false)), h400))) (fun _ _ _ => none) (fun _ _ => none)) (some (.ret (.lit (.bool false)), h))))))))) ((binAV E .neq 3 x2 (.lit (.int .i64 8))).bind fun r405 => (boolOf r405).bind fun b406 => cond b406 ((lenA E 31 x5).bind fun n407 => (binAV E .gtr 3 (.lit (.int .i64 n407)) (.lit (.int .i64 0))).bind fun r408 => (boolOf r408).bind fun b409 => cond b409 (some (.ret (.lit (.bool false)), h)) ((binAV E .geq 3 x2 (.lit (.int .i64 1))).bind fun r410 => (boolOf r410).bind fun b411 => cond b411 ((binAV E .leq 3 x2 (.lit (.int .i64 5))).bind fun r412 => (boolOf r412).bind fun b413 => cond b413 ((lenA E 29 x6).bind fun n414 => (binAV E .eql 3 (.lit (.int .i64 n414)) (.lit (.int .i64 0))).bind fun r415 => some (.ret r415, h)) ((binAV E .eql 3 x2 (.lit (.int .i64 6))).bind fun r416 => (boolOf r416).bind fun b417 => cond b417 (onOut (F 80 [x4] h) (fun a418 h419 => (boolOf a418).bind fun b420 => cond b420 ((lenA E 29 x6).bind fun n421 => (binAV E .eql 3 (.lit (.int .i64 n421)) (.lit (.int .i64 0))).bind fun r422 => some (.ret r422, h419)) (some (.ret (.lit (.bool false)), h419))) (fun _ _ _ => none) (fun _ _ => none)) ((binAV E .eql 3 x2 (.lit (.int .i64 9))).bind fun r423 => (boolOf r423).bind fun b424 => cond b424 ((binAV E .geq 3 x3 (.lit (.int .i64 0))).bind fun r425 => (boolOf r425).bind fun b426 => cond b426 ((binAV E .leq 3 x3 (.lit (.int .i64 1073741824))).bind fun r427 => (boolOf r427).bind fun b428 => cond b428 ((lenA E 29 x6).bind fun n429 => (binAV E .eql 3 (.lit (.int .i64 n429)) (.lit (.int .i64 0))).bind fun r430 => some (.ret r430, h)) (some (.ret (.lit (.bool false)), h))) (some (.ret (.lit (.bool false)), h))) ((binAV E .eql 3 x2 (.lit (.int .i64 7))).bind fun r431 => (boolOf r431).bind fun b432 => cond b432 ((lenA E 29 x6).bind fun n433 => (binAV E .eql 3 (.lit (.int .i64 n433)) (.lit (.int .i64 2))).bind fun r434 => some (.ret r434, h)) ((binAV E .eql 3 x2 (.lit (.int .i64 8))).bind fun r435 => (boolOf r435).bind fun b436 => cond b436 (onOut (F 81 [x5] h) (fun a437 h438 => (boolOf a437).bind fun b439 => cond b439 ((lenA E 31 x5).bind fun n440 => (lenA E 29 x6).bind fun n441 => (binAV E .eql 3 (.lit (.int .i64 n440)) (.lit (.int .i64 n441))).bind fun r442 => some (.ret r442, h438)) (some (.ret (.lit (.bool false)), h438))) (fun _ _ _ => none) (fun _ _ => none)) (some (.ret (.lit (.bool false)), h))))))) ((binAV E .eql 3 x2 (.lit (.int .i64 6))).bind fun r443 => (boolOf r443).bind fun b444 => cond b444 (onOut (F 80 [x4] h) (fun a445 h446 => (boolOf a445).bind fun b447 => cond b447 ((lenA E 29 x6).bind fun n448 => (binAV E .eql 3 (.lit (.int .i64 n448)) (.lit (.int .i64 0))).bind fun r449 => some (.ret r449, h446)) (some (.ret (.lit (.bool false)), h446))) (fun _ _ _ => none) (fun _ _ => none)) ((binAV E .eql 3 x2 (.lit (.int .i64 9))).bind fun r450 => (boolOf r450).bind fun b451 => cond b451 ((binAV E .geq 3 x3 (.lit (.int .i64 0))).bind fun r452 => (boolOf r452).bind fun b453 => cond b453 ((binAV E .leq 3 x3 (.lit (.int .i64 1073741824))).bind fun r454 => (boolOf r454).bind fun b455 => cond b455 ((lenA E 29 x6).bind fun n456 => (binAV E .eql 3 (.lit (.int .i64 n456)) (.lit (.int .i64 0))).bind fun r457 => some (.ret r457, h)) (some (.ret (.lit (.bool false)), h))) (some (.ret (.lit (.bool false)), h))) ((binAV E .eql 3 x2 (.lit (.int .i64 7))).bind fun r458 => (boolOf r458).bind fun b459 => cond b459 ((lenA E 29 x6).bind fun n460 => (binAV E .eql 3 (.lit (.int .i64 n460)) (.lit (.int .i64 2))).bind fun r461 => some (.ret r461, h)) ((binAV E .eql 3 x2 (.lit (.int .i64 8))).bind fun r462 => (boolOf r462).bind fun b463 => cond b463 (onOut (F 81 [x5] h) (fun a464 h465 => (boolOf a464).bind fun b466 => cond b466 ((lenA E 31 x5).bind fun n467 => (lenA E 29 x6).bind fun n468 => (binAV E .eql 3 (.lit (.int .i64 n467)) (.lit (.int .i64 n468))).bind fun r469 => some (.ret r469, h465)) (some (.ret (.lit (.bool false)), h465))) (fun _ _ _ => none) (fun _ _ => none)) (some (.ret (.lit (.bool false)), h)))))))) ((binAV E .geq 3 x2 (.lit (.int .i64 1))).bind fun r470 => (boolOf r470).bind fun b471 => cond b471 ((binAV E .leq 3 x2 (.lit (.int .i64 5))).bind fun r472 => (boolOf r472).bind fun b473 => cond b473 ((lenA E 29 x6).bind fun n474 => (binAV E .eql 3 (.lit (.int .i64 n474)) (.lit (.int .i64 0))).bind fun r475 => some (.ret r475, h)) ((binAV E .eql 3 x2 (.lit (.int .i64 6))).bind fun r476 => (boolOf r476).bind fun b477 => cond b477 (onOut (F 80 [x4] h) (fun a478 h479 => (boolOf a478).bind fun b480 => cond b480 ((lenA E 29 x6).bind fun n481 => (binAV E .eql 3 (.lit (.int .i64 n481)) (.lit (.int .i64 0))).bind fun r482 => some (.ret r482, h479)) (some (.ret (.lit (.bool false)), h479))) (fun _ _ _ => none) (fun _ _ => none)) ((binAV E .eql 3 x2 (.lit (.int .i64 9))).bind fun r483 => (boolOf r483).bind fun b484 => cond b484 ((binAV E .geq 3 x3 (.lit (.int .i64 0))).bind fun r485 => (boolOf r485).bind fun b486 => cond b486 ((binAV E .leq 3 x3 (.lit (.int .i64 1073741824))).bind fun r487 => (boolOf r487).bind fun b488 => cond b488 ((lenA E 29 x6).bind fun n489 => (binAV E .eql 3 (.lit (.int .i64 n489)) (.lit (.int .i64 0))).bind fun r490 => some (.ret r490, h)) (some (.ret (.lit (.bool false)), h))) (some (.ret (.lit (.bool false)), h))) ((binAV E .eql 3 x2 (.lit (.int .i64 7))).bind fun r491 => (boolOf r491).bind fun b492 => cond b492 ((lenA E 29 x6).bind fun n493 => (binAV E .eql 3 (.lit (.int .i64 n493)) (.lit (.int .i64 2))).bind fun r494 => some (.ret r494, h)) ((binAV E .eql 3 x2 (.lit (.int .i64 8))).bind fun r495 => (boolOf r495).bind fun b496 => cond b496 (onOut (F 81 [x5] h) (fun a497 h498 => (boolOf a497).bind fun b499 => cond b499 ((lenA E 31 x5).bind fun n500 => (lenA E 29 x6).bind fun n501 => (binAV E .eql 3 (.lit (.int .i64 n500)) (.lit (.int .i64 n501))).bind fun r502 => some (.ret r502, h498)) (some (.ret (.lit (.bool false)), h498))) (fun _ _ _ => none) (fun _ _ => none)) (some (.ret (.lit (.bool false)), h))))))) ((binAV E .eql 3 x2 (.lit (.int .i64 6))).bind fun r503 => (boolOf r503).bind fun b504 => cond b504 (onOut (F 80 [x4] h) (fun a505 h506 => (boolOf a505).bind fun b507 => cond b507 ((lenA E 29 x6).bind fun n508 => (binAV E .eql 3 (.lit (.int .i64 n508)) (.lit (.int .i64 0))).bind fun r509 => some (.ret r509, h506)) (some (.ret (.lit (.bool false)), h506))) (fun _ _ _ => none) (fun _ _ => none)) ((binAV E .eql 3 x2 (.lit (.int .i64 9))).bind fun r510 => (boolOf r510).bind fun b511 => cond b511 ((binAV E .geq 3 x3 (.lit (.int .i64 0))).bind fun r512 => (boolOf r512).bind fun b513 => cond b513 ((binAV E .leq 3 x3 (.lit (.int .i64 1073741824))).bind fun r514 => (boolOf r514).bind fun b515 => cond b515 ((lenA E 29 x6).bind fun n516 => (binAV E .eql 3 (.lit (.int .i64 n516)) (.lit (.int .i64 0))).bind fun r517 => some (.ret r517, h)) (some (.ret (.lit (.bool false)), h))) (some (.ret (.lit (.bool false)), h))) ((binAV E .eql 3 x2 (.lit (.int .i64 7))).bind fun r518 => (boolOf r518).bind fun b519 => cond b519 ((lenA E 29 x6).bind fun n520 => (binAV E .eql 3 (.lit (.int .i64 n520)) (.lit (.int .i64 2))).bind fun r521 => some (.ret r521, h)) ((binAV E .eql 3 x2 (.lit (.int .i64 8))).bind fun r522 => (boolOf r522).bind fun b523 => cond b523 (onOut (F 81 [x5] h) (fun a524 h525 => (boolOf a524).bind fun b526 => cond b526 ((lenA E 31 x5).bind fun n527 => (lenA E 29 x6).bind fun n528 => (binAV E .eql 3 (.lit (.int .i64 n527)) (.lit (.int .i64 n528))).bind fun r529 => some (.ret r529, h525)) (some (.ret (.lit (.bool false)), h525))) (fun _ _ _ => none) (fun _ _ => none)) (some (.ret (.lit (.bool false)), h)))))))))) := by kernel_rfl
theorem nf25 (a0_ : AV) : runF E 25 Try.f25 F n [a0_] h0 = (aggOf a0_).bind fun l1 => cond (Nat.beq l1.length 5) (Lp25_0 F n h0 n h0 (l1.getD 0 .dead) (l1.getD 1 .dead) (l1.getD 2 .dead) (l1.getD 3 .dead) (l1.getD 4 .dead) (.lit (.int .i64 0))) none := by kernel_rfl
-- 26 limbeck/seal.Full
theorem nf26 (a0_ : AV) (a1_ : AV) : runF E 26 Try.f26 F n [a0_, a1_] h0 = cond (AV.one a0_) ((aggOf a1_).bind fun l1 => cond (Nat.beq l1.length 5) ((hstore ((h0 ++ ([[.v a0_]] : Heap)) ++ ([[.v (.lit (.int .i64 0))]] : Heap)) ((h0 ++ ([[.v a0_]] : Heap))).length 0 [.v (.lit (.int .i64 300))]).bind fun h2 => (hstore (h2 ++ ([[.v (.lit .nilFunc)]] : Heap)) (h2).length 0 [.v (.fn 82 [] [.hp (h0).length 0, .hp ((h0 ++ ([[.v a0_]] : Heap))).length 0, .hp (h2).length 0])]).bind fun h3 => (hpart false 1 0 (h2).length h3).bind fun v4 => (hpart false 1 0 (h0).length h3).bind fun v5 => (lenA E 22 v5).bind fun n6 => onOut (applyV F v4 [.agg [(l1.getD 0 .dead), (l1.getD 1 .dead), (l1.getD 2 .dead), (l1.getD 3 .dead), (l1.getD 4 .dead)], .lit (.int .i64 n6)] h3) (fun a7 h8 => (aggOf a7).bind fun l9 => cond (Nat.beq l9.length 5) ((hpart false 1 0 ((h0 ++ ([[.v a0_]] : Heap))).length h8).bind fun v10 => (binAV E .lss 3 v10 (.lit (.int .i64 0))).bind fun r11 => (boolOf r11).bind fun b12 => cond b12 (trunc (E.hint 26) h0 (.ret (.tup [.agg [.lit (.int .i64 0), .lit (.int .i64 0), .lit (.string ByteArray.empty), .sl 1 [], .sl 5 []], .lit (.bool false)])) h8) (trunc (E.hint 26) h0 (.ret (.tup [.agg [(l9.getD 0 .dead), (l9.getD 1 .dead), (l9.getD 2 .dead), (l9.getD 3 .dead), (l9.getD 4 .dead)], .lit (.bool true)])) h8)) none) (fun _ _ _ => none) (fun _ _ => none)) none) none := by kernel_rfl
-- 27 limbeck/limbeckref04.Has
noncomputable def Lp27_0 (m : Nat) (h : Heap) (x4 : AV) (x5 : AV) (x6 : AV) (x7 : AV) (x8 : AV) (x9 : AV) (x10 : AV) : R := loopAt E 27 Try.f27 F n h0 [.r, .r, .l, .r, .b] m { s := lkS [(1, .c (.v x4)), (2, .loc [.v x5, .v x6, .v x7, .v x8, .v x9]), (5, .c (.v x10))], h := h }
theorem Lp27_0_zero (h : Heap) (x4 : AV) (x5 : AV) (x6 : AV) (x7 : AV) (x8 : AV) (x9 : AV) (x10 : AV) : Lp27_0 F n h0 0 h x4 x5 x6 x7 x8 x9 x10 = none := by kernel_rfl
theorem Lp27_0_succ (m : Nat) (h : Heap) (x4 : AV) (x5 : AV) (x6 : AV) (x7 : AV) (x8 : AV) (x9 : AV) (x10 : AV) : Lp27_0 F n h0 (m + 1) h x4 x5 x6 x7 x8 x9 x10 = (lenA E 29 x9).bind fun n11 => (binAV E .lss 3 x10 (.lit (.int .i64 n11))).bind fun r12 => (boolOf r12).bind fun b13 => cond b13 ((indexA 5 x9 x10).bind fun e14 => (partA true 5 0 e14).bind fun v15 => onOut (F 27 [v15, x4] h) (fun a16 h17 => (boolOf a16).bind fun b18 => cond b18 (some (.ret (.lit (.bool true)), h17)) ((binAV E .add 3 x10 (.lit (.int .i64 1))).bind fun r19 => Lp27_0 F n h0 m h17 x4 x5 x6 x7 x8 x9 r19)) (fun _ _ _ => none) (fun _ _ => none)) (some (.ret (.lit (.bool false)), h)) := by kernel_rfl
theorem nf27 (a0_ : AV) (a1_ : AV) : runF E 27 Try.f27 F n [a0_, a1_] h0 = (aggOf a0_).bind fun l1 => cond (Nat.beq l1.length 5) ((binAV E .eql 3 (l1.getD 0 .dead) a1_).bind fun r2 => (boolOf r2).bind fun b3 => cond b3 (some (.ret (.lit (.bool true)), h0)) (Lp27_0 F n h0 n h0 a1_ (l1.getD 0 .dead) (l1.getD 1 .dead) (l1.getD 2 .dead) (l1.getD 3 .dead) (l1.getD 4 .dead) (.lit (.int .i64 0)))) none := by kernel_rfl
-- 28 limbeck/limbeckref04.Fits
theorem nf28 (a0_ : AV) : runF E 28 Try.f28 F n [a0_] h0 = (aggOf a0_).bind fun l1 => cond (Nat.beq l1.length 5) (onOut (F 83 [.agg [(l1.getD 0 .dead), (l1.getD 1 .dead), (l1.getD 2 .dead), (l1.getD 3 .dead), (l1.getD 4 .dead)]] h0) (fun a2 h3 => (binAV E .leq 3 a2 (.lit (.int .i64 300))).bind fun r4 => some (.ret r4, h3)) (fun _ _ _ => none) (fun _ _ => none)) none := by kernel_rfl
-- 32 limbeck/seal.Opaque
theorem nf32 (a0_ : AV) (a1_ : AV) : runF E 32 Try.f32 F n [a0_, a1_] h0 = onOut (F 21 [a0_, a1_] h0) (fun a1 h2 => (tupOf a1).bind fun l3 => (l3[0]?).bind fun v4 => (tupOf a1).bind fun l5 => (l5[1]?).bind fun v6 => (aggOf v4).bind fun l7 => cond (Nat.beq l7.length 12) ((boolOf v6).bind fun b8 => cond b8 ((binAV E .eql 3 (l7.getD 5 .dead) (.lit (.int .i64 4))).bind fun r9 => (boolOf r9).bind fun b10 => cond b10 (onOut (F 85 [.agg [(l7.getD 5 .dead), (l7.getD 6 .dead), (l7.getD 7 .dead), (l7.getD 8 .dead), (l7.getD 9 .dead)]] h2) (fun a11 h12 => some (.ret a11, h12)) (fun _ _ _ => none) (fun _ _ => none)) (some (.ret (.lit (.bool false)), h2))) (some (.ret (.lit (.bool false)), h2))) none) (fun _ _ _ => none) (fun _ _ => none) := by kernel_rfl
-- 69 limbeck/limbeckref04.Top
theorem nf69 : runF E 69 Try.f69 F n [] h0 = some (.ret (.agg [.lit (.int .i64 4), .lit (.int .i64 0), .lit (.string ByteArray.empty), .sl 1 [], .sl 5 []]), h0) := by kernel_rfl
-- 72 limbeck/limbeckref04.Simple
theorem nf72 (a0_ : AV) : runF E 72 Try.f72 F n [a0_] h0 = cond (AV.one a0_) (some (.ret (.agg [a0_, .lit (.int .i64 0), .lit (.string ByteArray.empty), .sl 1 [], .sl 5 []]), h0)) none := by kernel_rfl
-- 73 limbeck/limbeckref04.Seal
theorem nf73 (a0_ : AV) : runF E 73 Try.f73 F n [a0_] h0 = cond (AV.one a0_) (some (.ret (.agg [.lit (.int .i64 9), a0_, .lit (.string ByteArray.empty), .sl 1 [], .sl 5 []]), h0)) none := by kernel_rfl
-- 74 limbeck/limbeckref04.Fun
theorem nf74 (a0_ : AV) (a1_ : AV) : runF E 74 Try.f74 F n [a0_, a1_] h0 = (aggOf a0_).bind fun l1 => cond (Nat.beq l1.length 5) ((aggOf a1_).bind fun l2 => cond (Nat.beq l2.length 5) (some (.ret (.agg [.lit (.int .i64 7), .lit (.int .i64 0), .lit (.string ByteArray.empty), .sl 1 [], .sl 5 [[(l1.getD 0 .dead), (l1.getD 1 .dead), (l1.getD 2 .dead), (l1.getD 3 .dead), (l1.getD 4 .dead)], [(l2.getD 0 .dead), (l2.getD 1 .dead), (l2.getD 2 .dead), (l2.getD 3 .dead), (l2.getD 4 .dead)]]]), h0)) none) none := by kernel_rfl
-- 75 limbeck/limbeckref04.Closed
theorem nf75 (a0_ : AV) : runF E 75 Try.f75 F n [a0_] h0 = (aggOf a0_).bind fun l1 => cond (Nat.beq l1.length 5) (onOut (F 27 [.agg [(l1.getD 0 .dead), (l1.getD 1 .dead), (l1.getD 2 .dead), (l1.getD 3 .dead), (l1.getD 4 .dead)], .lit (.int .i64 6)] h0) (fun a2 h3 => (unAV .not a2).bind fun r4 => some (.ret r4, h3)) (fun _ _ _ => none) (fun _ _ => none)) none := by kernel_rfl
-- 76 limbeck/limbeckref28.ahead
noncomputable def Lp76_0 (m : Nat) (h : Heap) (x6 : AV) (x7 : AV) (x8 : AV) (x9 : AV) (x10 : AV) (x11 : AV) (x12 : AV) : R := loopAt E 76 Try.f76 F n h0 [.r, .r, .l, .r, .b] m { s := lkS [(1, .c (.v x6)), (2, .loc [.v x7, .v x8, .v x9, .v x10, .v x11]), (5, .c (.v x12))], h := h }
theorem Lp76_0_zero (h : Heap) (x6 : AV) (x7 : AV) (x8 : AV) (x9 : AV) (x10 : AV) (x11 : AV) (x12 : AV) : Lp76_0 F n h0 0 h x6 x7 x8 x9 x10 x11 x12 = none := by kernel_rfl
theorem Lp76_0_succ (m : Nat) (h : Heap) (x6 : AV) (x7 : AV) (x8 : AV) (x9 : AV) (x10 : AV) (x11 : AV) (x12 : AV) : Lp76_0 F n h0 (m + 1) h x6 x7 x8 x9 x10 x11 x12 = (lenA E 29 x11).bind fun n13 => (binAV E .lss 3 x12 (.lit (.int .i64 n13))).bind fun r14 => (boolOf r14).bind fun b15 => cond b15 ((indexA 5 x11 x12).bind fun e16 => (partA true 5 0 e16).bind fun v17 => onOut (F 76 [v17, x6] h) (fun a18 h19 => (unAV .not a18).bind fun r20 => (boolOf r20).bind fun b21 => cond b21 (some (.ret (.lit (.bool false)), h19)) ((binAV E .add 3 x12 (.lit (.int .i64 1))).bind fun r22 => Lp76_0 F n h0 m h19 x6 x7 x8 x9 x10 x11 r22)) (fun _ _ _ => none) (fun _ _ => none)) (some (.ret (.lit (.bool true)), h)) := by kernel_rfl
theorem nf76 (a0_ : AV) (a1_ : AV) : runF E 76 Try.f76 F n [a0_, a1_] h0 = (aggOf a0_).bind fun l1 => cond (Nat.beq l1.length 5) ((binAV E .eql 3 (l1.getD 0 .dead) (.lit (.int .i64 9))).bind fun r2 => (boolOf r2).bind fun b3 => cond b3 ((binAV E .geq 3 (l1.getD 1 .dead) a1_).bind fun r4 => (boolOf r4).bind fun b5 => cond b5 (some (.ret (.lit (.bool false)), h0)) (Lp76_0 F n h0 n h0 a1_ (l1.getD 0 .dead) (l1.getD 1 .dead) (l1.getD 2 .dead) (l1.getD 3 .dead) (l1.getD 4 .dead) (.lit (.int .i64 0)))) (Lp76_0 F n h0 n h0 a1_ (l1.getD 0 .dead) (l1.getD 1 .dead) (l1.getD 2 .dead) (l1.getD 3 .dead) (l1.getD 4 .dead) (.lit (.int .i64 0)))) none := by kernel_rfl
-- 78 limbeck/seal.fine
theorem nf78 (a0_ : AV) (a1_ : AV) : runF E 78 Try.f78 F n [a0_, a1_] h0 = (aggOf a0_).bind fun l1 => cond (Nat.beq l1.length 5) (onOut (F 85 [.agg [(l1.getD 0 .dead), (l1.getD 1 .dead), (l1.getD 2 .dead), (l1.getD 3 .dead), (l1.getD 4 .dead)]] h0) (fun a2 h3 => (boolOf a2).bind fun b4 => cond b4 (onOut (F 130 [.agg [(l1.getD 0 .dead), (l1.getD 1 .dead), (l1.getD 2 .dead), (l1.getD 3 .dead), (l1.getD 4 .dead)], .lit (.int .i64 6)] h3) (fun a5 h6 => (unAV .not a5).bind fun r7 => (boolOf r7).bind fun b8 => cond b8 (onOut (F 131 [.agg [(l1.getD 0 .dead), (l1.getD 1 .dead), (l1.getD 2 .dead), (l1.getD 3 .dead), (l1.getD 4 .dead)], a1_] h6) (fun a9 h10 => some (.ret a9, h10)) (fun _ _ _ => none) (fun _ _ => none)) (some (.ret (.lit (.bool false)), h6))) (fun _ _ _ => none) (fun _ _ => none)) (some (.ret (.lit (.bool false)), h3))) (fun _ _ _ => none) (fun _ _ => none)) none := by kernel_rfl
-- 79 limbeck/limbeckref01.Same
noncomputable def Lp79_0 (m : Nat) (h : Heap) (x5 : AV) (x6 : AV) (x7 : AV) : R := loopAt E 79 Try.f79 F n h0 [.r, .r, .l, .r, .b] m { s := lkS [(0, .c (.v x5)), (1, .c (.v x6)), (5, .c (.v x7))], h := h }
theorem Lp79_0_zero (h : Heap) (x5 : AV) (x6 : AV) (x7 : AV) : Lp79_0 F n h0 0 h x5 x6 x7 = none := by kernel_rfl
theorem Lp79_0_succ (m : Nat) (h : Heap) (x5 : AV) (x6 : AV) (x7 : AV) : Lp79_0 F n h0 (m + 1) h x5 x6 x7 = (lenA E 31 x5).bind fun n8 => (binAV E .lss 3 x7 (.lit (.int .i64 n8))).bind fun r9 => (boolOf r9).bind fun b10 => cond b10 ((lenA E 31 x6).bind fun n11 => (binAV E .lss 3 x7 (.lit (.int .i64 n11))).bind fun r12 => (boolOf r12).bind fun b13 => cond b13 ((indexA 1 x5 x7).bind fun e14 => (partA false 1 0 e14).bind fun v15 => (indexA 1 x6 x7).bind fun e16 => (partA false 1 0 e16).bind fun v17 => (binAV E .neq 9 v15 v17).bind fun r18 => (boolOf r18).bind fun b19 => cond b19 (some (.ret (.lit (.bool false)), h)) ((binAV E .add 3 x7 (.lit (.int .i64 1))).bind fun r20 => Lp79_0 F n h0 m h x5 x6 r20)) (some (.ret (.lit (.bool true)), h))) (some (.ret (.lit (.bool true)), h)) := by kernel_rfl
theorem nf79 (a0_ : AV) (a1_ : AV) : runF E 79 Try.f79 F n [a0_, a1_] h0 = (lenA E 31 a0_).bind fun n1 => (lenA E 31 a1_).bind fun n2 => (binAV E .neq 3 (.lit (.int .i64 n1)) (.lit (.int .i64 n2))).bind fun r3 => (boolOf r3).bind fun b4 => cond b4 (some (.ret (.lit (.bool false)), h0)) (Lp79_0 F n h0 n h0 a0_ a1_ (.lit (.int .i64 0))) := by kernel_rfl
-- 80 limbeck/limbeckref01.Var
theorem nf80 (a0_ : AV) : runF E 80 Try.f80 F n [a0_] h0 = onOut (F 132 [a0_] h0) (fun a1 h2 => (binAV E .eql 3 a1 (.lit (.int .i64 2))).bind fun r3 => some (.ret r3, h2)) (fun _ _ _ => none) (fun _ _ => none) := by kernel_rfl
-- 81 limbeck/limbeckref01.Rising
noncomputable def Lp81_0 (m : Nat) (h : Heap) (x1 : AV) (x2 : AV) : R := loopAt E 81 Try.f81 F n h0 [.r, .l, .r, .b] m { s := lkS [(0, .c (.v x1)), (3, .c (.v x2))], h := h }
theorem Lp81_0_zero (h : Heap) (x1 : AV) (x2 : AV) : Lp81_0 F n h0 0 h x1 x2 = none := by kernel_rfl
theorem Lp81_0_succ (m : Nat) (h : Heap) (x1 : AV) (x2 : AV) : Lp81_0 F n h0 (m + 1) h x1 x2 = (lenA E 31 x1).bind fun n3 => (binAV E .lss 3 x2 (.lit (.int .i64 n3))).bind fun r4 => (boolOf r4).bind fun b5 => cond b5 ((indexA 1 x1 x2).bind fun e6 => (partA false 1 0 e6).bind fun v7 => onOut (F 133 [v7] h) (fun a8 h9 => (unAV .not a8).bind fun r10 => (boolOf r10).bind fun b11 => cond b11 (some (.ret (.lit (.bool false)), h9)) ((binAV E .gtr 3 x2 (.lit (.int .i64 0))).bind fun r12 => (boolOf r12).bind fun b13 => cond b13 ((binAV E .sub 3 x2 (.lit (.int .i64 1))).bind fun r14 => (indexA 1 x1 r14).bind fun e15 => (partA false 1 0 e15).bind fun v16 => (indexA 1 x1 x2).bind fun e17 => (partA false 1 0 e17).bind fun v18 => (binAV E .geq 9 v16 v18).bind fun r19 => (boolOf r19).bind fun b20 => cond b20 (some (.ret (.lit (.bool false)), h9)) ((binAV E .add 3 x2 (.lit (.int .i64 1))).bind fun r21 => Lp81_0 F n h0 m h9 x1 r21)) ((binAV E .add 3 x2 (.lit (.int .i64 1))).bind fun r22 => Lp81_0 F n h0 m h9 x1 r22))) (fun _ _ _ => none) (fun _ _ => none)) (some (.ret (.lit (.bool true)), h)) := by kernel_rfl
theorem nf81 (a0_ : AV) : runF E 81 Try.f81 F n [a0_] h0 = Lp81_0 F n h0 n h0 a0_ (.lit (.int .i64 0)) := by kernel_rfl
-- 82 limbeck/seal.Full$1
noncomputable def Lp82_0 (m : Nat) (h : Heap) (x26 : AV) (i27 : Nat) (i28 : Nat) (x29 : AV) (x30 : AV) (x31 : AV) (z32 : List (List AV)) (z33 : List (List AV)) (x34 : AV) (x35 : AV) (x36 : AV) (x37 : AV) (z38 : List (List AV)) (x39 : AV) (x40 : AV) (x41 : AV) : R := loopAt E 82 Try.f82 F n h0 [.r, .r, .r, .r, .r, .l, .r, .b] m { s := lkS [(1, .c (.v x26)), (3, .c (.v (.hp i27 0))), (4, .c (.v (.hp i28 0))), (7, .loc [.v x29, .v x30, .v x31, .own 1 z32, .own 5 z33]), (10, .loc [.v x34, .v x35, .v x36, .v x37, .own 5 z38]), (43, .c (.v x39)), (44, .c (.v x40)), (45, .c (.v x41))], h := h }
theorem Lp82_0_zero (h : Heap) (x26 : AV) (i27 : Nat) (i28 : Nat) (x29 : AV) (x30 : AV) (x31 : AV) (z32 : List (List AV)) (z33 : List (List AV)) (x34 : AV) (x35 : AV) (x36 : AV) (x37 : AV) (z38 : List (List AV)) (x39 : AV) (x40 : AV) (x41 : AV) : Lp82_0 F n h0 0 h x26 i27 i28 x29 x30 x31 z32 z33 x34 x35 x36 x37 z38 x39 x40 x41 = none := by kernel_rfl
theorem Lp82_0_succ (m : Nat) (h : Heap) (x26 : AV) (i27 : Nat) (i28 : Nat) (x29 : AV) (x30 : AV) (x31 : AV) (z32 : List (List AV)) (z33 : List (List AV)) (x34 : AV) (x35 : AV) (x36 : AV) (x37 : AV) (z38 : List (List AV)) (x39 : AV) (x40 : AV) (x41 : AV) : Lp82_0 F n h0 (m + 1) h x26 i27 i28 x29 x30 x31 z32 z33 x34 x35 x36 x37 z38 x39 x40 x41 = (binAV E .lss 3 x41 x40).bind fun r42 => (boolOf r42).bind fun b43 => cond b43 ((indexA 5 x39 x41).bind fun e44 => (partA true 5 0 e44).bind fun v45 => (aggOf v45).bind fun l46 => cond (Nat.beq l46.length 5) ((hpart false 1 0 i27 h).bind fun v47 => (binAV E .lss 3 v47 (.lit (.int .i64 0))).bind fun r48 => (boolOf r48).bind fun b49 => cond b49 (some (.ret (.agg [x34, x35, x36, x37, .sl 5 z38]), h)) ((hpart false 1 0 i28 h).bind fun v50 => onOut (applyV F v50 [.agg [(l46.getD 0 .dead), (l46.getD 1 .dead), (l46.getD 2 .dead), (l46.getD 3 .dead), (l46.getD 4 .dead)], x26] h) (fun a51 h52 => (aggOf a51).bind fun l53 => cond (Nat.beq l53.length 5) (cond (Nat.ble (z38.length + ([[(l53.getD 0 .dead), (l53.getD 1 .dead), (l53.getD 2 .dead), (l53.getD 3 .dead), (l53.getD 4 .dead)]] : List (List AV)).length) maxApp) ((binAV E .add 3 x41 (.lit (.int .i64 1))).bind fun r54 => Lp82_0 F n h0 m h52 x26 i27 i28 x29 x30 x31 z32 z33 x34 x35 x36 x37 (z38 ++ [[(l53.getD 0 .dead), (l53.getD 1 .dead), (l53.getD 2 .dead), (l53.getD 3 .dead), (l53.getD 4 .dead)]]) x39 x40 r54) none) none) (fun _ _ _ => none) (fun _ _ => none))) none) (some (.ret (.agg [x34, x35, x36, x37, .sl 5 z38]), h)) := by kernel_rfl
theorem nf82 (a0_ : AV) (a1_ : AV) (i2_ : Nat) (i3_ : Nat) (i4_ : Nat) : runF E 82 Try.f82 F n [a0_, a1_, .hp i2_ 0, .hp i3_ 0, .hp i4_ 0] h0 = (aggOf a0_).bind fun l1 => cond (Nat.beq l1.length 5) ((binAV E .eql 3 (l1.getD 0 .dead) (.lit (.int .i64 9))).bind fun r2 => (boolOf r2).bind fun b3 => cond b3 ((hpart false 1 0 i2_ h0).bind fun v4 => onOut (F 21 [v4, (l1.getD 1 .dead)] h0) (fun a5 h6 => (tupOf a5).bind fun l7 => (l7[0]?).bind fun v8 => (tupOf a5).bind fun l9 => (l9[1]?).bind fun v10 => (aggOf v8).bind fun l11 => cond (Nat.beq l11.length 12) ((unAV .not v10).bind fun r12 => (boolOf r12).bind fun b13 => cond b13 ((hstore h6 i3_ 0 [.v (.lit (.int .i64 (-1)))]).bind fun h14 => some (.ret (.agg [.lit (.int .i64 0), .lit (.int .i64 0), .lit (.string ByteArray.empty), .sl 1 [], .sl 5 []]), h14)) ((binAV E .geq 3 (l1.getD 1 .dead) a1_).bind fun r15 => (boolOf r15).bind fun b16 => cond b16 ((hstore h6 i3_ 0 [.v (.lit (.int .i64 (-1)))]).bind fun h17 => some (.ret (.agg [.lit (.int .i64 0), .lit (.int .i64 0), .lit (.string ByteArray.empty), .sl 1 [], .sl 5 []]), h17)) ((hpart false 1 0 i4_ h6).bind fun v18 => onOut (applyV F v18 [.agg [(l11.getD 0 .dead), (l11.getD 1 .dead), (l11.getD 2 .dead), (l11.getD 3 .dead), (l11.getD 4 .dead)], (l1.getD 1 .dead)] h6) (fun a19 h20 => (aggOf a19).bind fun l21 => cond (Nat.beq l21.length 5) (some (.ret (.agg [(l21.getD 0 .dead), (l21.getD 1 .dead), (l21.getD 2 .dead), (l21.getD 3 .dead), (l21.getD 4 .dead)]), h20)) none) (fun _ _ _ => none) (fun _ _ => none)))) none) (fun _ _ _ => none) (fun _ _ => none)) ((hpart false 1 0 i3_ h0).bind fun v22 => (binAV E .sub 3 v22 (.lit (.int .i64 1))).bind fun r23 => cond (AV.one r23) ((hstore h0 i3_ 0 [.v r23]).bind fun h24 => (lenA E 29 (l1.getD 4 .dead)).bind fun n25 => Lp82_0 F n h0 n h24 a1_ i3_ i4_ (.lit (.int .i64 0)) (.lit (.int .i64 0)) (.lit (.string ByteArray.empty)) [] [] (l1.getD 0 .dead) (l1.getD 1 .dead) (l1.getD 2 .dead) (l1.getD 3 .dead) [] (l1.getD 4 .dead) (.lit (.int .i64 n25)) (.lit (.int .i64 0))) none)) none := by kernel_rfl
-- 83 limbeck/limbeckref04.Nodes
noncomputable def Lp83_0 (m : Nat) (h : Heap) (x2 : AV) (x3 : AV) (x4 : AV) (x5 : AV) (x6 : AV) (x7 : AV) (x8 : AV) : R := loopAt E 83 Try.f83 F n h0 [.r, .r, .l, .r, .b] m { s := lkS [(1, .loc [.v x2, .v x3, .v x4, .v x5, .v x6]), (3, .c (.v x7)), (4, .c (.v x8))], h := h }
theorem Lp83_0_zero (h : Heap) (x2 : AV) (x3 : AV) (x4 : AV) (x5 : AV) (x6 : AV) (x7 : AV) (x8 : AV) : Lp83_0 F n h0 0 h x2 x3 x4 x5 x6 x7 x8 = none := by kernel_rfl
theorem Lp83_0_succ (m : Nat) (h : Heap) (x2 : AV) (x3 : AV) (x4 : AV) (x5 : AV) (x6 : AV) (x7 : AV) (x8 : AV) : Lp83_0 F n h0 (m + 1) h x2 x3 x4 x5 x6 x7 x8 = (lenA E 29 x6).bind fun n9 => (binAV E .lss 3 x8 (.lit (.int .i64 n9))).bind fun r10 => (boolOf r10).bind fun b11 => cond b11 ((indexA 5 x6 x8).bind fun e12 => (partA true 5 0 e12).bind fun v13 => onOut (F 83 [v13] h) (fun a14 h15 => (binAV E .add 3 x7 a14).bind fun r16 => (binAV E .add 3 x8 (.lit (.int .i64 1))).bind fun r17 => Lp83_0 F n h0 m h15 x2 x3 x4 x5 x6 r16 r17) (fun _ _ _ => none) (fun _ _ => none)) (some (.ret x7, h)) := by kernel_rfl
theorem nf83 (a0_ : AV) : runF E 83 Try.f83 F n [a0_] h0 = (aggOf a0_).bind fun l1 => cond (Nat.beq l1.length 5) (Lp83_0 F n h0 n h0 (l1.getD 0 .dead) (l1.getD 1 .dead) (l1.getD 2 .dead) (l1.getD 3 .dead) (l1.getD 4 .dead) (.lit (.int .i64 1)) (.lit (.int .i64 0))) none := by kernel_rfl
-- 85 limbeck/ty.Right
theorem nf85 (a0_ : AV) : runF E 85 Try.f85 F n [a0_] h0 = (aggOf a0_).bind fun l1 => cond (Nat.beq l1.length 5) (onOut (F 134 [.agg [(l1.getD 0 .dead), (l1.getD 1 .dead), (l1.getD 2 .dead), (l1.getD 3 .dead), (l1.getD 4 .dead)]] h0) (fun a2 h3 => (unAV .not a2).bind fun r4 => (boolOf r4).bind fun b5 => cond b5 (some (.ret (.lit (.bool false)), h3)) (onOut (F 135 [(l1.getD 4 .dead), .fn 136 [] []] h3) (fun a6 h7 => (boolOf a6).bind fun b8 => cond b8 (some (.ret (.lit (.bool false)), h7)) ((binAV E .eql 3 (l1.getD 0 .dead) (.lit (.int .i64 1))).bind fun r9 => (boolOf r9).bind fun b10 => cond b10 ((boolOf r9).bind fun b11 => cond b11 ((lenA E 29 (l1.getD 4 .dead)).bind fun n12 => (binAV E .eql 3 (.lit (.int .i64 n12)) (.lit (.int .i64 0))).bind fun r13 => some (.ret r13, h7)) ((binAV E .eql 3 (l1.getD 0 .dead) (.lit (.int .i64 6))).bind fun r14 => (boolOf r14).bind fun b15 => cond b15 ((lenA E 29 (l1.getD 4 .dead)).bind fun n16 => (binAV E .eql 3 (.lit (.int .i64 n16)) (.lit (.int .i64 0))).bind fun r17 => (boolOf r17).bind fun b18 => cond b18 (onOut (F 137 [(l1.getD 2 .dead)] h7) (fun a19 h20 => some (.ret a19, h20)) (fun _ _ _ => none) (fun _ _ => none)) (some (.ret (.lit (.bool false)), h7))) ((binAV E .eql 3 (l1.getD 0 .dead) (.lit (.int .i64 9))).bind fun r21 => (boolOf r21).bind fun b22 => cond b22 ((lenA E 29 (l1.getD 4 .dead)).bind fun n23 => (binAV E .eql 3 (.lit (.int .i64 n23)) (.lit (.int .i64 0))).bind fun r24 => (boolOf r24).bind fun b25 => cond b25 ((binAV E .geq 3 (l1.getD 1 .dead) (.lit (.int .i64 0))).bind fun r26 => (boolOf r26).bind fun b27 => cond b27 ((binAV E .leq 3 (l1.getD 1 .dead) (.lit (.int .i64 1073741824))).bind fun r28 => some (.ret r28, h7)) (some (.ret (.lit (.bool false)), h7))) (some (.ret (.lit (.bool false)), h7))) ((binAV E .eql 3 (l1.getD 0 .dead) (.lit (.int .i64 7))).bind fun r29 => (boolOf r29).bind fun b30 => cond b30 ((lenA E 29 (l1.getD 4 .dead)).bind fun n31 => (binAV E .eql 3 (.lit (.int .i64 n31)) (.lit (.int .i64 2))).bind fun r32 => some (.ret r32, h7)) ((binAV E .eql 3 (l1.getD 0 .dead) (.lit (.int .i64 8))).bind fun r33 => (boolOf r33).bind fun b34 => cond b34 ((lenA E 29 (l1.getD 4 .dead)).bind fun n35 => (lenA E 31 (l1.getD 3 .dead)).bind fun n36 => (binAV E .eql 3 (.lit (.int .i64 n35)) (.lit (.int .i64 n36))).bind fun r37 => (boolOf r37).bind fun b38 => cond b38 (onOut (F 138 [(l1.getD 3 .dead)] h7) (fun a39 h40 => some (.ret a39, h40)) (fun _ _ _ => none) (fun _ _ => none)) (some (.ret (.lit (.bool false)), h7))) (some (.ret (.lit (.bool false)), h7))))))) ((binAV E .eql 3 (l1.getD 0 .dead) (.lit (.int .i64 2))).bind fun r41 => (boolOf r41).bind fun b42 => cond b42 ((boolOf r41).bind fun b43 => cond b43 ((lenA E 29 (l1.getD 4 .dead)).bind fun n44 => (binAV E .eql 3 (.lit (.int .i64 n44)) (.lit (.int .i64 0))).bind fun r45 => some (.ret r45, h7)) ((binAV E .eql 3 (l1.getD 0 .dead) (.lit (.int .i64 6))).bind fun r46 => (boolOf r46).bind fun b47 => cond b47 ((lenA E 29 (l1.getD 4 .dead)).bind fun n48 => (binAV E .eql 3 (.lit (.int .i64 n48)) (.lit (.int .i64 0))).bind fun r49 => (boolOf r49).bind fun b50 => cond b50 (onOut (F 137 [(l1.getD 2 .dead)] h7) (fun a51 h52 => some (.ret a51, h52)) (fun _ _ _ => none) (fun _ _ => none)) (some (.ret (.lit (.bool false)), h7))) ((binAV E .eql 3 (l1.getD 0 .dead) (.lit (.int .i64 9))).bind fun r53 => (boolOf r53).bind fun b54 => cond b54 ((lenA E 29 (l1.getD 4 .dead)).bind fun n55 => (binAV E .eql 3 (.lit (.int .i64 n55)) (.lit (.int .i64 0))).bind fun r56 => (boolOf r56).bind fun b57 => cond b57 ((binAV E .geq 3 (l1.getD 1 .dead) (.lit (.int .i64 0))).bind fun r58 => (boolOf r58).bind fun b59 => cond b59 ((binAV E .leq 3 (l1.getD 1 .dead) (.lit (.int .i64 1073741824))).bind fun r60 => some (.ret r60, h7)) (some (.ret (.lit (.bool false)), h7))) (some (.ret (.lit (.bool false)), h7))) ((binAV E .eql 3 (l1.getD 0 .dead) (.lit (.int .i64 7))).bind fun r61 => (boolOf r61).bind fun b62 => cond b62 ((lenA E 29 (l1.getD 4 .dead)).bind fun n63 => (binAV E .eql 3 (.lit (.int .i64 n63)) (.lit (.int .i64 2))).bind fun r64 => some (.ret r64, h7)) ((binAV E .eql 3 (l1.getD 0 .dead) (.lit (.int .i64 8))).bind fun r65 => (boolOf r65).bind fun b66 => cond b66 ((lenA E 29 (l1.getD 4 .dead)).bind fun n67 => (lenA E 31 (l1.getD 3 .dead)).bind fun n68 => (binAV E .eql 3 (.lit (.int .i64 n67)) (.lit (.int .i64 n68))).bind fun r69 => (boolOf r69).bind fun b70 => cond b70 (onOut (F 138 [(l1.getD 3 .dead)] h7) (fun a71 h72 => some (.ret a71, h72)) (fun _ _ _ => none) (fun _ _ => none)) (some (.ret (.lit (.bool false)), h7))) (some (.ret (.lit (.bool false)), h7))))))) ((binAV E .eql 3 (l1.getD 0 .dead) (.lit (.int .i64 3))).bind fun r73 => (boolOf r73).bind fun b74 => cond b74 ((boolOf r73).bind fun b75 => cond b75 ((lenA E 29 (l1.getD 4 .dead)).bind fun n76 => (binAV E .eql 3 (.lit (.int .i64 n76)) (.lit (.int .i64 0))).bind fun r77 => some (.ret r77, h7)) ((binAV E .eql 3 (l1.getD 0 .dead) (.lit (.int .i64 6))).bind fun r78 => (boolOf r78).bind fun b79 => cond b79 ((lenA E 29 (l1.getD 4 .dead)).bind fun n80 => (binAV E .eql 3 (.lit (.int .i64 n80)) (.lit (.int .i64 0))).bind fun r81 => (boolOf r81).bind fun b82 => cond b82 (onOut (F 137 [(l1.getD 2 .dead)] h7) (fun a83 h84 => some (.ret a83, h84)) (fun _ _ _ => none) (fun _ _ => none)) (some (.ret (.lit (.bool false)), h7))) ((binAV E .eql 3 (l1.getD 0 .dead) (.lit (.int .i64 9))).bind fun r85 => (boolOf r85).bind fun b86 => cond b86 ((lenA E 29 (l1.getD 4 .dead)).bind fun n87 => (binAV E .eql 3 (.lit (.int .i64 n87)) (.lit (.int .i64 0))).bind fun r88 => (boolOf r88).bind fun b89 => cond b89 ((binAV E .geq 3 (l1.getD 1 .dead) (.lit (.int .i64 0))).bind fun r90 => (boolOf r90).bind fun b91 => cond b91 ((binAV E .leq 3 (l1.getD 1 .dead) (.lit (.int .i64 1073741824))).bind fun r92 => some (.ret r92, h7)) (some (.ret (.lit (.bool false)), h7))) (some (.ret (.lit (.bool false)), h7))) ((binAV E .eql 3 (l1.getD 0 .dead) (.lit (.int .i64 7))).bind fun r93 => (boolOf r93).bind fun b94 => cond b94 ((lenA E 29 (l1.getD 4 .dead)).bind fun n95 => (binAV E .eql 3 (.lit (.int .i64 n95)) (.lit (.int .i64 2))).bind fun r96 => some (.ret r96, h7)) ((binAV E .eql 3 (l1.getD 0 .dead) (.lit (.int .i64 8))).bind fun r97 => (boolOf r97).bind fun b98 => cond b98 ((lenA E 29 (l1.getD 4 .dead)).bind fun n99 => (lenA E 31 (l1.getD 3 .dead)).bind fun n100 => (binAV E .eql 3 (.lit (.int .i64 n99)) (.lit (.int .i64 n100))).bind fun r101 => (boolOf r101).bind fun b102 => cond b102 (onOut (F 138 [(l1.getD 3 .dead)] h7) (fun a103 h104 => some (.ret a103, h104)) (fun _ _ _ => none) (fun _ _ => none)) (some (.ret (.lit (.bool false)), h7))) (some (.ret (.lit (.bool false)), h7))))))) ((binAV E .eql 3 (l1.getD 0 .dead) (.lit (.int .i64 4))).bind fun r105 => (boolOf r105).bind fun b106 => cond b106 ((boolOf r105).bind fun b107 => cond b107 ((lenA E 29 (l1.getD 4 .dead)).bind fun n108 => (binAV E .eql 3 (.lit (.int .i64 n108)) (.lit (.int .i64 0))).bind fun r109 => some (.ret r109, h7)) ((binAV E .eql 3 (l1.getD 0 .dead) (.lit (.int .i64 6))).bind fun r110 => (boolOf r110).bind fun b111 => cond b111 ((lenA E 29 (l1.getD 4 .dead)).bind fun n112 => (binAV E .eql 3 (.lit (.int .i64 n112)) (.lit (.int .i64 0))).bind fun r113 => (boolOf r113).bind fun b114 => cond b114 (onOut (F 137 [(l1.getD 2 .dead)] h7) (fun a115 h116 => some (.ret a115, h116)) (fun _ _ _ => none) (fun _ _ => none)) (some (.ret (.lit (.bool false)), h7))) ((binAV E .eql 3 (l1.getD 0 .dead) (.lit (.int .i64 9))).bind fun r117 => (boolOf r117).bind fun b118 => cond b118 ((lenA E 29 (l1.getD 4 .dead)).bind fun n119 => (binAV E .eql 3 (.lit (.int .i64 n119)) (.lit (.int .i64 0))).bind fun r120 => (boolOf r120).bind fun b121 => cond b121 ((binAV E .geq 3 (l1.getD 1 .dead) (.lit (.int .i64 0))).bind fun r122 => (boolOf r122).bind fun b123 => cond b123 ((binAV E .leq 3 (l1.getD 1 .dead) (.lit (.int .i64 1073741824))).bind fun r124 => some (.ret r124, h7)) (some (.ret (.lit (.bool false)), h7))) (some (.ret (.lit (.bool false)), h7))) ((binAV E .eql 3 (l1.getD 0 .dead) (.lit (.int .i64 7))).bind fun r125 => (boolOf r125).bind fun b126 => cond b126 ((lenA E 29 (l1.getD 4 .dead)).bind fun n127 => (binAV E .eql 3 (.lit (.int .i64 n127)) (.lit (.int .i64 2))).bind fun r128 => some (.ret r128, h7)) ((binAV E .eql 3 (l1.getD 0 .dead) (.lit (.int .i64 8))).bind fun r129 => (boolOf r129).bind fun b130 => cond b130 ((lenA E 29 (l1.getD 4 .dead)).bind fun n131 => (lenA E 31 (l1.getD 3 .dead)).bind fun n132 => (binAV E .eql 3 (.lit (.int .i64 n131)) (.lit (.int .i64 n132))).bind fun r133 => (boolOf r133).bind fun b134 => cond b134 (onOut (F 138 [(l1.getD 3 .dead)] h7) (fun a135 h136 => some (.ret a135, h136)) (fun _ _ _ => none) (fun _ _ => none)) (some (.ret (.lit (.bool false)), h7))) (some (.ret (.lit (.bool false)), h7))))))) ((binAV E .eql 3 (l1.getD 0 .dead) (.lit (.int .i64 5))).bind fun r137 => (boolOf r137).bind fun b138 => cond b138 ((lenA E 29 (l1.getD 4 .dead)).bind fun n139 => (binAV E .eql 3 (.lit (.int .i64 n139)) (.lit (.int .i64 0))).bind fun r140 => some (.ret r140, h7)) ((binAV E .eql 3 (l1.getD 0 .dead) (.lit (.int .i64 6))).bind fun r141 => (boolOf r141).bind fun b142 => cond b142 ((lenA E 29 (l1.getD 4 .dead)).bind fun n143 => (binAV E .eql 3 (.lit (.int .i64 n143)) (.lit (.int .i64 0))).bind fun r144 => (boolOf r144).bind fun b145 => cond b145 (onOut (F 137 [(l1.getD 2 .dead)] h7) (fun a146 h147 => some (.ret a146, h147)) (fun _ _ _ => none) (fun _ _ => none)) (some (.ret (.lit (.bool false)), h7))) ((binAV E .eql 3 (l1.getD 0 .dead) (.lit (.int .i64 9))).bind fun r148 => (boolOf r148).bind fun b149 => cond b149 ((lenA E 29 (l1.getD 4 .dead)).bind fun n150 => (binAV E .eql 3 (.lit (.int .i64 n150)) (.lit (.int .i64 0))).bind fun r151 => (boolOf r151).bind fun b152 => cond b152 ((binAV E .geq 3 (l1.getD 1 .dead) (.lit (.int .i64 0))).bind fun r153 => (boolOf r153).bind fun b154 => cond b154 ((binAV E .leq 3 (l1.getD 1 .dead) (.lit (.int .i64 1073741824))).bind fun r155 => some (.ret r155, h7)) (some (.ret (.lit (.bool false)), h7))) (some (.ret (.lit (.bool false)), h7))) ((binAV E .eql 3 (l1.getD 0 .dead) (.lit (.int .i64 7))).bind fun r156 => (boolOf r156).bind fun b157 => cond b157 ((lenA E 29 (l1.getD 4 .dead)).bind fun n158 => (binAV E .eql 3 (.lit (.int .i64 n158)) (.lit (.int .i64 2))).bind fun r159 => some (.ret r159, h7)) ((binAV E .eql 3 (l1.getD 0 .dead) (.lit (.int .i64 8))).bind fun r160 => (boolOf r160).bind fun b161 => cond b161 ((lenA E 29 (l1.getD 4 .dead)).bind fun n162 => (lenA E 31 (l1.getD 3 .dead)).bind fun n163 => (binAV E .eql 3 (.lit (.int .i64 n162)) (.lit (.int .i64 n163))).bind fun r164 => (boolOf r164).bind fun b165 => cond b165 (onOut (F 138 [(l1.getD 3 .dead)] h7) (fun a166 h167 => some (.ret a166, h167)) (fun _ _ _ => none) (fun _ _ => none)) (some (.ret (.lit (.bool false)), h7))) (some (.ret (.lit (.bool false)), h7)))))))))))) (fun _ _ _ => none) (fun _ _ => none))) (fun _ _ _ => none) (fun _ _ => none)) none := by kernel_rfl
-- 131 limbeck/seal.under
theorem nf131 (a0_ : AV) (a1_ : AV) : runF E 131 Try.f131 F n [a0_, a1_] h0 = (aggOf a0_).bind fun l1 => cond (Nat.beq l1.length 5) (cond (AV.one a1_) ((binAV E .eql 3 (l1.getD 0 .dead) (.lit (.int .i64 9))).bind fun r2 => (boolOf r2).bind fun b3 => cond b3 ((hpart false 1 0 (h0).length (h0 ++ ([[.v a1_]] : Heap))).bind fun v4 => (binAV E .lss 3 (l1.getD 1 .dead) v4).bind fun r5 => trunc (E.hint 131) h0 (.ret r5) (h0 ++ ([[.v a1_]] : Heap))) (onOut (F 135 [(l1.getD 4 .dead), .fn 161 [] [.hp (h0).length 0]] (h0 ++ ([[.v a1_]] : Heap))) (fun a6 h7 => (unAV .not a6).bind fun r8 => trunc (E.hint 131) h0 (.ret r8) h7) (fun _ _ _ => none) (fun _ _ => none))) none) none := by kernel_rfl
-- 132 limbeck/limbeckref01.Kind
noncomputable def Lp132_0 (m : Nat) (h : Heap) (x19 : AV) (x20 : AV) (x21 : AV) : R := loopAt E 132 Try.f132 F n h0 [.r, .r, .r, .r, .r, .r, .l, .r, .b] m { s := lkS [(0, .c (.v x19)), (4, .c (.v x20)), (5, .c (.v x21))], h := h }
theorem Lp132_0_zero (h : Heap) (x19 : AV) (x20 : AV) (x21 : AV) : Lp132_0 F n h0 0 h x19 x20 x21 = none := by kernel_rfl
theorem Lp132_0_succ (m : Nat) (h : Heap) (x19 : AV) (x20 : AV) (x21 : AV) : Lp132_0 F n h0 (m + 1) h x19 x20 x21 = (lenA E 9 x19).bind fun n22 => (binAV E .lss 3 x21 (.lit (.int .i64 n22))).bind fun r23 => (boolOf r23).bind fun b24 => cond b24 ((indexS x19 x21).bind fun v25 => onOut (F 165 [v25] h) (fun a26 h27 => (unAV .not a26).bind fun r28 => (boolOf r28).bind fun b29 => cond b29 ((indexS x19 x21).bind fun v30 => onOut (F 163 [v30] h27) (fun a31 h32 => (unAV .not a31).bind fun r33 => (boolOf r33).bind fun b34 => cond b34 ((indexS x19 x21).bind fun v35 => onOut (F 164 [v35] h32) (fun a36 h37 => (unAV .not a36).bind fun r38 => (boolOf r38).bind fun b39 => cond b39 (some (.ret (.lit (.int .i64 0)), h37)) ((binAV E .eql 3 x20 (.lit (.int .i64 1))).bind fun r40 => (boolOf r40).bind fun b41 => cond b41 (some (.ret (.lit (.int .i64 0)), h37)) ((binAV E .add 3 x21 (.lit (.int .i64 1))).bind fun r42 => Lp132_0 F n h0 m h37 x19 x20 r42))) (fun _ _ _ => none) (fun _ _ => none)) ((binAV E .add 3 x21 (.lit (.int .i64 1))).bind fun r43 => Lp132_0 F n h0 m h32 x19 x20 r43)) (fun _ _ _ => none) (fun _ _ => none)) ((binAV E .add 3 x21 (.lit (.int .i64 1))).bind fun r44 => Lp132_0 F n h0 m h27 x19 x20 r44)) (fun _ _ _ => none) (fun _ _ => none)) (some (.ret x20, h)) := by kernel_rfl
theorem nf132 (a0_ : AV) : runF E 132 Try.f132 F n [a0_] h0 = onOut (F 162 [a0_] h0) (fun a1 h2 => (binAV E .neq 3 a1 (.lit (.int .i64 0))).bind fun r3 => (boolOf r3).bind fun b4 => cond b4 (some (.ret a1, h2)) ((lenA E 9 a0_).bind fun n5 => (binAV E .lss 3 (.lit (.int .i64 n5)) (.lit (.int .i64 1))).bind fun r6 => (boolOf r6).bind fun b7 => cond b7 (some (.ret (.lit (.int .i64 0)), h2)) ((lenA E 9 a0_).bind fun n8 => (binAV E .gtr 3 (.lit (.int .i64 n8)) (.lit (.int .i64 8))).bind fun r9 => (boolOf r9).bind fun b10 => cond b10 (some (.ret (.lit (.int .i64 0)), h2)) ((indexS a0_ (.lit (.int .i64 0))).bind fun v11 => onOut (F 163 [v11] h2) (fun a12 h13 => (boolOf a12).bind fun b14 => cond b14 ((indexS a0_ (.lit (.int .i64 0))).bind fun v15 => onOut (F 164 [v15] h13) (fun a16 h17 => (boolOf a16).bind fun b18 => cond b18 (Lp132_0 F n h0 n h17 a0_ (.lit (.int .i64 2)) (.lit (.int .i64 1))) (Lp132_0 F n h0 n h17 a0_ (.lit (.int .i64 1)) (.lit (.int .i64 1)))) (fun _ _ _ => none) (fun _ _ => none)) ((indexS a0_ (.lit (.int .i64 0))).bind fun v45 => onOut (F 164 [v45] h13) (fun a46 h47 => (boolOf a46).bind fun b48 => cond b48 (Lp132_0 F n h0 n h47 a0_ (.lit (.int .i64 2)) (.lit (.int .i64 1))) (Lp132_0 F n h0 n h47 a0_ (.lit (.int .i64 0)) (.lit (.int .i64 1)))) (fun _ _ _ => none) (fun _ _ => none))) (fun _ _ _ => none) (fun _ _ => none))))) (fun _ _ _ => none) (fun _ _ => none) := by kernel_rfl
-- 133 limbeck/limbeckref01.Fine
theorem nf133 (a0_ : AV) : runF E 133 Try.f133 F n [a0_] h0 = onOut (F 132 [a0_] h0) (fun a1 h2 => (binAV E .eql 3 a1 (.lit (.int .i64 1))).bind fun r3 => some (.ret r3, h2)) (fun _ _ _ => none) (fun _ _ => none) := by kernel_rfl
-- 134 limbeck/ty.bare
theorem nf134 (a0_ : AV) : runF E 134 Try.f134 F n [a0_] h0 = (aggOf a0_).bind fun l1 => cond (Nat.beq l1.length 5) ((binAV E .eql 3 (l1.getD 0 .dead) (.lit (.int .i64 6))).bind fun r2 => (boolOf r2).bind fun b3 => cond b3 ((binAV E .eql 3 (l1.getD 0 .dead) (.lit (.int .i64 9))).bind fun r4 => (boolOf r4).bind fun b5 => cond b5 ((binAV E .eql 3 (l1.getD 0 .dead) (.lit (.int .i64 8))).bind fun r6 => (boolOf r6).bind fun b7 => cond b7 (some (.ret (.lit (.bool true)), h0)) ((lenA E 31 (l1.getD 3 .dead)).bind fun n8 => (binAV E .eql 3 (.lit (.int .i64 n8)) (.lit (.int .i64 0))).bind fun r9 => some (.ret r9, h0))) ((binAV E .eql 3 (l1.getD 1 .dead) (.lit (.int .i64 0))).bind fun r10 => (boolOf r10).bind fun b11 => cond b11 ((binAV E .eql 3 (l1.getD 0 .dead) (.lit (.int .i64 8))).bind fun r12 => (boolOf r12).bind fun b13 => cond b13 (some (.ret (.lit (.bool true)), h0)) ((lenA E 31 (l1.getD 3 .dead)).bind fun n14 => (binAV E .eql 3 (.lit (.int .i64 n14)) (.lit (.int .i64 0))).bind fun r15 => some (.ret r15, h0))) (some (.ret (.lit (.bool false)), h0)))) ((binAV E .eql 9 (l1.getD 2 .dead) (.lit (.string ByteArray.empty))).bind fun r16 => (boolOf r16).bind fun b17 => cond b17 ((binAV E .eql 3 (l1.getD 0 .dead) (.lit (.int .i64 9))).bind fun r18 => (boolOf r18).bind fun b19 => cond b19 ((binAV E .eql 3 (l1.getD 0 .dead) (.lit (.int .i64 8))).bind fun r20 => (boolOf r20).bind fun b21 => cond b21 (some (.ret (.lit (.bool true)), h0)) ((lenA E 31 (l1.getD 3 .dead)).bind fun n22 => (binAV E .eql 3 (.lit (.int .i64 n22)) (.lit (.int .i64 0))).bind fun r23 => some (.ret r23, h0))) ((binAV E .eql 3 (l1.getD 1 .dead) (.lit (.int .i64 0))).bind fun r24 => (boolOf r24).bind fun b25 => cond b25 ((binAV E .eql 3 (l1.getD 0 .dead) (.lit (.int .i64 8))).bind fun r26 => (boolOf r26).bind fun b27 => cond b27 (some (.ret (.lit (.bool true)), h0)) ((lenA E 31 (l1.getD 3 .dead)).bind fun n28 => (binAV E .eql 3 (.lit (.int .i64 n28)) (.lit (.int .i64 0))).bind fun r29 => some (.ret r29, h0))) (some (.ret (.lit (.bool false)), h0)))) (some (.ret (.lit (.bool false)), h0)))) none := by kernel_rfl
-- 135 slices.ContainsFunc[[]limbeck/api.Ty,limbeck/api.Ty]
theorem nf135 (a0_ : AV) (a1_ : AV) : runF E 135 Try.f135 F n [a0_, a1_] h0 = onOut (F 166 [a0_, a1_] h0) (fun a1 h2 => (binAV E .geq 3 a1 (.lit (.int .i64 0))).bind fun r3 => some (.ret r3, h2)) (fun _ _ _ => none) (fun _ _ => none) := by kernel_rfl
-- 136 limbeck/ty.Right$1
theorem nf136 (a0_ : AV) : runF E 136 Try.f136 F n [a0_] h0 = (aggOf a0_).bind fun l1 => cond (Nat.beq l1.length 5) (onOut (F 85 [.agg [(l1.getD 0 .dead), (l1.getD 1 .dead), (l1.getD 2 .dead), (l1.getD 3 .dead), (l1.getD 4 .dead)]] h0) (fun a2 h3 => (unAV .not a2).bind fun r4 => some (.ret r4, h3)) (fun _ _ _ => none) (fun _ _ => none)) none := by kernel_rfl
-- 137 limbeck/name.Var
theorem nf137 (a0_ : AV) : runF E 137 Try.f137 F n [a0_] h0 = onOut (F 167 [a0_] h0) (fun a1 h2 => (binAV E .eql 3 a1 (.lit (.int .i64 2))).bind fun r3 => some (.ret r3, h2)) (fun _ _ _ => none) (fun _ _ => none) := by kernel_rfl
-- 138 limbeck/name.Rising
noncomputable def Lp138_0 (m : Nat) (h : Heap) (x2 : AV) (x3 : AV) (x4 : AV) (x5 : AV) : R := loopAt E 138 Try.f138 F n h0 [.r, .l, .r, .b] m { s := lkS [(0, .c (.v x2)), (5, .c (.v x3)), (6, .c (.v x4)), (7, .c (.v x5))], h := h }
theorem Lp138_0_zero (h : Heap) (x2 : AV) (x3 : AV) (x4 : AV) (x5 : AV) : Lp138_0 F n h0 0 h x2 x3 x4 x5 = none := by kernel_rfl
theorem Lp138_0_succ (m : Nat) (h : Heap) (x2 : AV) (x3 : AV) (x4 : AV) (x5 : AV) : Lp138_0 F n h0 (m + 1) h x2 x3 x4 x5 = (binAV E .lss 3 x5 x4).bind fun r6 => (boolOf r6).bind fun b7 => cond b7 ((indexA 1 x3 x5).bind fun e8 => (partA false 1 0 e8).bind fun v9 => onOut (F 141 [v9] h) (fun a10 h11 => (unAV .not a10).bind fun r12 => (boolOf r12).bind fun b13 => cond b13 (some (.ret (.lit (.bool false)), h11)) ((binAV E .gtr 3 x5 (.lit (.int .i64 0))).bind fun r14 => (boolOf r14).bind fun b15 => cond b15 ((binAV E .sub 3 x5 (.lit (.int .i64 1))).bind fun r16 => (indexA 1 x2 r16).bind fun e17 => (partA false 1 0 e17).bind fun v18 => (binAV E .geq 9 v18 v9).bind fun r19 => (boolOf r19).bind fun b20 => cond b20 (some (.ret (.lit (.bool false)), h11)) ((binAV E .add 3 x5 (.lit (.int .i64 1))).bind fun r21 => Lp138_0 F n h0 m h11 x2 x3 x4 r21)) ((binAV E .add 3 x5 (.lit (.int .i64 1))).bind fun r22 => Lp138_0 F n h0 m h11 x2 x3 x4 r22))) (fun _ _ _ => none) (fun _ _ => none)) (some (.ret (.lit (.bool true)), h)) := by kernel_rfl
theorem nf138 (a0_ : AV) : runF E 138 Try.f138 F n [a0_] h0 = (lenA E 31 a0_).bind fun n1 => Lp138_0 F n h0 n h0 a0_ a0_ (.lit (.int .i64 n1)) (.lit (.int .i64 0)) := by kernel_rfl
-- 141 limbeck/name.Fine
theorem nf141 (a0_ : AV) : runF E 141 Try.f141 F n [a0_] h0 = onOut (F 167 [a0_] h0) (fun a1 h2 => (binAV E .eql 3 a1 (.lit (.int .i64 1))).bind fun r3 => some (.ret r3, h2)) (fun _ _ _ => none) (fun _ _ => none) := by kernel_rfl
-- 160 limbeck/ty.nodes
theorem nf160 (a0_ : AV) : runF E 160 Try.f160 F n [a0_] h0 = (aggOf a0_).bind fun l1 => cond (Nat.beq l1.length 5) (some (.ret (.fn 176 [] [.hp (h0).length 0]), (h0 ++ ([[.v (l1.getD 0 .dead), .v (l1.getD 1 .dead), .v (l1.getD 2 .dead), .v (l1.getD 3 .dead), .v (l1.getD 4 .dead)]] : Heap)))) none := by kernel_rfl
-- 161 limbeck/seal.under$1
theorem nf161 (a0_ : AV) (i1_ : Nat) : runF E 161 Try.f161 F n [a0_, .hp i1_ 0] h0 = (aggOf a0_).bind fun l1 => cond (Nat.beq l1.length 5) ((hpart false 1 0 i1_ h0).bind fun v2 => onOut (F 131 [.agg [(l1.getD 0 .dead), (l1.getD 1 .dead), (l1.getD 2 .dead), (l1.getD 3 .dead), (l1.getD 4 .dead)], v2] h0) (fun a3 h4 => (unAV .not a3).bind fun r5 => some (.ret r5, h4)) (fun _ _ _ => none) (fun _ _ => none)) none := by kernel_rfl
-- 162 limbeck/limbeckref01.Kept
noncomputable def Lp162_1 (m : Nat) (h : Heap) (x12 : AV) (z13 : List (List AV)) (x14 : AV) : R := loopAt E 162 Try.f162 F n h0 [.r, .r, .r, .r, .l, .r, .b] m { s := lkS [(0, .c (.v x12)), (5, .c (.own 1 z13)), (6, .c (.v x14))], h := h }
theorem Lp162_1_zero (h : Heap) (x12 : AV) (z13 : List (List AV)) (x14 : AV) : Lp162_1 F n h0 0 h x12 z13 x14 = none := by kernel_rfl
theorem Lp162_1_succ (m : Nat) (h : Heap) (x12 : AV) (z13 : List (List AV)) (x14 : AV) : Lp162_1 F n h0 (m + 1) h x12 z13 x14 = (lenA E 31 (.sl 1 z13)).bind fun n15 => (binAV E .lss 3 x14 (.lit (.int .i64 n15))).bind fun r16 => (boolOf r16).bind fun b17 => cond b17 ((indexA 1 (.sl 1 z13) x14).bind fun e18 => (partA false 1 0 e18).bind fun v19 => (binAV E .eql 9 v19 x12).bind fun r20 => (boolOf r20).bind fun b21 => cond b21 (some (.ret (.lit (.int .i64 4)), h)) ((binAV E .add 3 x14 (.lit (.int .i64 1))).bind fun r22 => Lp162_1 F n h0 m h x12 z13 r22)) (some (.ret (.lit (.int .i64 0)), h)) := by kernel_rfl
noncomputable def Lp162_0 (m : Nat) (h : Heap) (x1 : AV) (z2 : List (List AV)) (x3 : AV) : R := loopAt E 162 Try.f162 F n h0 [.r, .r, .l, .r, .b] m { s := lkS [(0, .c (.v x1)), (3, .c (.own 1 z2)), (4, .c (.v x3))], h := h }
theorem Lp162_0_zero (h : Heap) (x1 : AV) (z2 : List (List AV)) (x3 : AV) : Lp162_0 F n h0 0 h x1 z2 x3 = none := by kernel_rfl
theorem Lp162_0_succ (m : Nat) (h : Heap) (x1 : AV) (z2 : List (List AV)) (x3 : AV) : Lp162_0 F n h0 (m + 1) h x1 z2 x3 = (lenA E 31 (.sl 1 z2)).bind fun n4 => (binAV E .lss 3 x3 (.lit (.int .i64 n4))).bind fun r5 => (boolOf r5).bind fun b6 => cond b6 ((indexA 1 (.sl 1 z2) x3).bind fun e7 => (partA false 1 0 e7).bind fun v8 => (binAV E .eql 9 v8 x1).bind fun r9 => (boolOf r9).bind fun b10 => cond b10 (some (.ret (.lit (.int .i64 3)), h)) ((binAV E .add 3 x3 (.lit (.int .i64 1))).bind fun r11 => Lp162_0 F n h0 m h x1 z2 r11)) (Lp162_1 F n h0 n h x1 [[.lit (.string ⟨#[73, 110, 116]⟩)], [.lit (.string ⟨#[66, 111, 111, 108]⟩)], [.lit (.string ⟨#[83, 116, 114, 105, 110, 103]⟩)], [.lit (.string ⟨#[84, 111, 112]⟩)]] (.lit (.int .i64 0))) := by kernel_rfl
theorem nf162 (a0_ : AV) : runF E 162 Try.f162 F n [a0_] h0 = Lp162_0 F n h0 n h0 a0_ [[.lit (.string ⟨#[108, 101, 116]⟩)], [.lit (.string ⟨#[105, 110]⟩)], [.lit (.string ⟨#[105, 102]⟩)], [.lit (.string ⟨#[116, 104, 101, 110]⟩)], [.lit (.string ⟨#[101, 108, 115, 101]⟩)], [.lit (.string ⟨#[102, 110]⟩)], [.lit (.string ⟨#[99, 97, 108, 108]⟩)], [.lit (.string ⟨#[100, 101, 102]⟩)], [.lit (.string ⟨#[116, 114, 117, 101]⟩)], [.lit (.string ⟨#[102, 97, 108, 115, 101]⟩)]] (.lit (.int .i64 0)) := by kernel_rfl
-- 163 limbeck/limbeckref01.Low
theorem nf163 (a0_ : AV) : runF E 163 Try.f163 F n [a0_] h0 = (binAV E .geq 5 a0_ (.lit (.int .u8 97))).bind fun r1 => (boolOf r1).bind fun b2 => cond b2 ((binAV E .leq 5 a0_ (.lit (.int .u8 122))).bind fun r3 => some (.ret r3, h0)) (some (.ret (.lit (.bool false)), h0)) := by kernel_rfl
-- 164 limbeck/limbeckref01.Up
theorem nf164 (a0_ : AV) : runF E 164 Try.f164 F n [a0_] h0 = (binAV E .geq 5 a0_ (.lit (.int .u8 65))).bind fun r1 => (boolOf r1).bind fun b2 => cond b2 ((binAV E .leq 5 a0_ (.lit (.int .u8 90))).bind fun r3 => some (.ret r3, h0)) (some (.ret (.lit (.bool false)), h0)) := by kernel_rfl
-- 165 limbeck/limbeckref01.Digit
theorem nf165 (a0_ : AV) : runF E 165 Try.f165 F n [a0_] h0 = (binAV E .geq 5 a0_ (.lit (.int .u8 48))).bind fun r1 => (boolOf r1).bind fun b2 => cond b2 ((binAV E .leq 5 a0_ (.lit (.int .u8 57))).bind fun r3 => some (.ret r3, h0)) (some (.ret (.lit (.bool false)), h0)) := by kernel_rfl
-- 166 slices.IndexFunc[[]limbeck/api.Ty,limbeck/api.Ty]
noncomputable def Lp166_0 (m : Nat) (h : Heap) (x2 : AV) (x3 : AV) (x4 : AV) (x5 : AV) : R := loopAt E 166 Try.f166 F n h0 [.r, .l, .r, .b] m { s := lkS [(0, .c (.v x2)), (1, .c (.v x3)), (7, .c (.v x4)), (8, .c (.v x5))], h := h }
theorem Lp166_0_zero (h : Heap) (x2 : AV) (x3 : AV) (x4 : AV) (x5 : AV) : Lp166_0 F n h0 0 h x2 x3 x4 x5 = none := by kernel_rfl
theorem Lp166_0_succ (m : Nat) (h : Heap) (x2 : AV) (x3 : AV) (x4 : AV) (x5 : AV) : Lp166_0 F n h0 (m + 1) h x2 x3 x4 x5 = (binAV E .lss 3 x5 x4).bind fun r6 => (boolOf r6).bind fun b7 => cond b7 ((indexA 5 x2 x5).bind fun e8 => (partA true 5 0 e8).bind fun v9 => onOut (applyV F x3 [v9] h) (fun a10 h11 => (boolOf a10).bind fun b12 => cond b12 (some (.ret x5, h11)) ((binAV E .add 3 x5 (.lit (.int .i64 1))).bind fun r13 => Lp166_0 F n h0 m h11 x2 x3 x4 r13)) (fun _ _ _ => none) (fun _ _ => none)) (some (.ret (.lit (.int .i64 (-1))), h)) := by kernel_rfl
theorem nf166 (a0_ : AV) (a1_ : AV) : runF E 166 Try.f166 F n [a0_, a1_] h0 = (lenA E 29 a0_).bind fun n1 => Lp166_0 F n h0 n h0 a0_ a1_ (.lit (.int .i64 n1)) (.lit (.int .i64 0)) := by kernel_rfl
-- 167 limbeck/name.Kind
theorem nf167 (a0_ : AV) : runF E 167 Try.f167 F n [a0_] h0 = onOut (F 178 [a0_] h0) (fun a1 h2 => (binAV E .eql 9 a0_ (.lit (.string ⟨#[108, 101, 116]⟩))).bind fun r3 => (boolOf r3).bind fun b4 => cond b4 ((boolOf r3).bind fun b5 => cond b5 (some (.ret (.lit (.int .i64 3)), h2)) ((binAV E .eql 9 a0_ (.lit (.string ⟨#[102, 110]⟩))).bind fun r6 => (boolOf r6).bind fun b7 => cond b7 ((boolOf r6).bind fun b8 => cond b8 (some (.ret (.lit (.int .i64 3)), h2)) ((binAV E .eql 9 a0_ (.lit (.string ⟨#[73, 110, 116]⟩))).bind fun r9 => (boolOf r9).bind fun b10 => cond b10 ((boolOf r9).bind fun b11 => cond b11 (some (.ret (.lit (.int .i64 4)), h2)) (some (.ret a1, h2))) ((binAV E .eql 9 a0_ (.lit (.string ⟨#[66, 111, 111, 108]⟩))).bind fun r12 => (boolOf r12).bind fun b13 => cond b13 ((boolOf r12).bind fun b14 => cond b14 (some (.ret (.lit (.int .i64 4)), h2)) (some (.ret a1, h2))) ((binAV E .eql 9 a0_ (.lit (.string ⟨#[83, 116, 114, 105, 110, 103]⟩))).bind fun r15 => (boolOf r15).bind fun b16 => cond b16 ((boolOf r15).bind fun b17 => cond b17 (some (.ret (.lit (.int .i64 4)), h2)) (some (.ret a1, h2))) ((binAV E .eql 9 a0_ (.lit (.string ⟨#[84, 111, 112]⟩))).bind fun r18 => (boolOf r18).bind fun b19 => cond b19 (some (.ret (.lit (.int .i64 4)), h2)) (some (.ret a1, h2))))))) ((binAV E .eql 9 a0_ (.lit (.string ⟨#[99, 97, 108, 108]⟩))).bind fun r20 => (boolOf r20).bind fun b21 => cond b21 ((boolOf r20).bind fun b22 => cond b22 (some (.ret (.lit (.int .i64 3)), h2)) ((binAV E .eql 9 a0_ (.lit (.string ⟨#[73, 110, 116]⟩))).bind fun r23 => (boolOf r23).bind fun b24 => cond b24 ((boolOf r23).bind fun b25 => cond b25 (some (.ret (.lit (.int .i64 4)), h2)) (some (.ret a1, h2))) ((binAV E .eql 9 a0_ (.lit (.string ⟨#[66, 111, 111, 108]⟩))).bind fun r26 => (boolOf r26).bind fun b27 => cond b27 ((boolOf r26).bind fun b28 => cond b28 (some (.ret (.lit (.int .i64 4)), h2)) (some (.ret a1, h2))) ((binAV E .eql 9 a0_ (.lit (.string ⟨#[83, 116, 114, 105, 110, 103]⟩))).bind fun r29 => (boolOf r29).bind fun b30 => cond b30 ((boolOf r29).bind fun b31 => cond b31 (some (.ret (.lit (.int .i64 4)), h2)) (some (.ret a1, h2))) ((binAV E .eql 9 a0_ (.lit (.string ⟨#[84, 111, 112]⟩))).bind fun r32 => (boolOf r32).bind fun b33 => cond b33 (some (.ret (.lit (.int .i64 4)), h2)) (some (.ret a1, h2))))))) ((binAV E .eql 9 a0_ (.lit (.string ⟨#[100, 101, 102]⟩))).bind fun r34 => (boolOf r34).bind fun b35 => cond b35 ((boolOf r34).bind fun b36 => cond b36 (some (.ret (.lit (.int .i64 3)), h2)) ((binAV E .eql 9 a0_ (.lit (.string ⟨#[73, 110, 116]⟩))).bind fun r37 => (boolOf r37).bind fun b38 => cond b38 ((boolOf r37).bind fun b39 => cond b39 (some (.ret (.lit (.int .i64 4)), h2)) (some (.ret a1, h2))) ((binAV E .eql 9 a0_ (.lit (.string ⟨#[66, 111, 111, 108]⟩))).bind fun r40 => (boolOf r40).bind fun b41 => cond b41 ((boolOf r40).bind fun b42 => cond b42 (some (.ret (.lit (.int .i64 4)), h2)) (some (.ret a1, h2))) ((binAV E .eql 9 a0_ (.lit (.string ⟨#[83, 116, 114, 105, 110, 103]⟩))).bind fun r43 => (boolOf r43).bind fun b44 => cond b44 ((boolOf r43).bind fun b45 => cond b45 (some (.ret (.lit (.int .i64 4)), h2)) (some (.ret a1, h2))) ((binAV E .eql 9 a0_ (.lit (.string ⟨#[84, 111, 112]⟩))).bind fun r46 => (boolOf r46).bind fun b47 => cond b47 (some (.ret (.lit (.int .i64 4)), h2)) (some (.ret a1, h2))))))) ((binAV E .eql 9 a0_ (.lit (.string ⟨#[116, 114, 117, 101]⟩))).bind fun r48 => (boolOf r48).bind fun b49 => cond b49 ((boolOf r48).bind fun b50 => cond b50 (some (.ret (.lit (.int .i64 3)), h2)) ((binAV E .eql 9 a0_ (.lit (.string ⟨#[73, 110, 116]⟩))).bind fun r51 => (boolOf r51).bind fun b52 => cond b52 ((boolOf r51).bind fun b53 => cond b53 (some (.ret (.lit (.int .i64 4)), h2)) (some (.ret a1, h2))) ((binAV E .eql 9 a0_ (.lit (.string ⟨#[66, 111, 111, 108]⟩))).bind fun r54 => (boolOf r54).bind fun b55 => cond b55 ((boolOf r54).bind fun b56 => cond b56 (some (.ret (.lit (.int .i64 4)), h2)) (some (.ret a1, h2))) ((binAV E .eql 9 a0_ (.lit (.string ⟨#[83, 116, 114, 105, 110, 103]⟩))).bind fun r57 => (boolOf r57).bind fun b58 => cond b58 ((boolOf r57).bind fun b59 => cond b59 (some (.ret (.lit (.int .i64 4)), h2)) (some (.ret a1, h2))) ((binAV E .eql 9 a0_ (.lit (.string ⟨#[84, 111, 112]⟩))).bind fun r60 => (boolOf r60).bind fun b61 => cond b61 (some (.ret (.lit (.int .i64 4)), h2)) (some (.ret a1, h2))))))) ((binAV E .eql 9 a0_ (.lit (.string ⟨#[102, 97, 108, 115, 101]⟩))).bind fun r62 => (boolOf r62).bind fun b63 => cond b63 (some (.ret (.lit (.int .i64 3)), h2)) ((binAV E .eql 9 a0_ (.lit (.string ⟨#[73, 110, 116]⟩))).bind fun r64 => (boolOf r64).bind fun b65 => cond b65 ((boolOf r64).bind fun b66 => cond b66 (some (.ret (.lit (.int .i64 4)), h2)) (some (.ret a1, h2))) ((binAV E .eql 9 a0_ (.lit (.string ⟨#[66, 111, 111, 108]⟩))).bind fun r67 => (boolOf r67).bind fun b68 => cond b68 ((boolOf r67).bind fun b69 => cond b69 (some (.ret (.lit (.int .i64 4)), h2)) (some (.ret a1, h2))) ((binAV E .eql 9 a0_ (.lit (.string ⟨#[83, 116, 114, 105, 110, 103]⟩))).bind fun r70 => (boolOf r70).bind fun b71 => cond b71 ((boolOf r70).bind fun b72 => cond b72 (some (.ret (.lit (.int .i64 4)), h2)) (some (.ret a1, h2))) ((binAV E .eql 9 a0_ (.lit (.string ⟨#[84, 111, 112]⟩))).bind fun r73 => (boolOf r73).bind fun b74 => cond b74 (some (.ret (.lit (.int .i64 4)), h2)) (some (.ret a1, h2)))))))))))) ((binAV E .eql 9 a0_ (.lit (.string ⟨#[105, 110]⟩))).bind fun r75 => (boolOf r75).bind fun b76 => cond b76 ((boolOf r75).bind fun b77 => cond b77 (some (.ret (.lit (.int .i64 3)), h2)) ((binAV E .eql 9 a0_ (.lit (.string ⟨#[102, 110]⟩))).bind fun r78 => (boolOf r78).bind fun b79 => cond b79 ((boolOf r78).bind fun b80 => cond b80 (some (.ret (.lit (.int .i64 3)), h2)) ((binAV E .eql 9 a0_ (.lit (.string ⟨#[73, 110, 116]⟩))).bind fun r81 => (boolOf r81).bind fun b82 => cond b82 ((boolOf r81).bind fun b83 => cond b83 (some (.ret (.lit (.int .i64 4)), h2)) (some (.ret a1, h2))) ((binAV E .eql 9 a0_ (.lit (.string ⟨#[66, 111, 111, 108]⟩))).bind fun r84 => (boolOf r84).bind fun b85 => cond b85 ((boolOf r84).bind fun b86 => cond b86 (some (.ret (.lit (.int .i64 4)), h2)) (some (.ret a1, h2))) ((binAV E .eql 9 a0_ (.lit (.string ⟨#[83, 116, 114, 105, 110, 103]⟩))).bind fun r87 => (boolOf r87).bind fun b88 => cond b88 ((boolOf r87).bind fun b89 => cond b89 (some (.ret (.lit (.int .i64 4)), h2)) (some (.ret a1, h2))) ((binAV E .eql 9 a0_ (.lit (.string ⟨#[84, 111, 112]⟩))).bind fun r90 => (boolOf r90).bind fun b91 => cond b91 (some (.ret (.lit (.int .i64 4)), h2)) (some (.ret a1, h2))))))) ((binAV E .eql 9 a0_ (.lit (.string ⟨#[99, 97, 108, 108]⟩))).bind fun r92 => (boolOf r92).bind fun b93 => cond b93 ((boolOf r92).bind fun b94 => cond b94 (some (.ret (.lit (.int .i64 3)), h2)) ((binAV E .eql 9 a0_ (.lit (.string ⟨#[73, 110, 116]⟩))).bind fun r95 => (boolOf r95).bind fun b96 => cond b96 ((boolOf r95).bind fun b97 => cond b97 (some (.ret (.lit (.int .i64 4)), h2)) (some (.ret a1, h2))) ((binAV E .eql 9 a0_ (.lit (.string ⟨#[66, 111, 111, 108]⟩))).bind fun r98 => (boolOf r98).bind fun b99 => cond b99 ((boolOf r98).bind fun b100 => cond b100 (some (.ret (.lit (.int .i64 4)), h2)) (some (.ret a1, h2))) ((binAV E .eql 9 a0_ (.lit (.string ⟨#[83, 116, 114, 105, 110, 103]⟩))).bind fun r101 => (boolOf r101).bind fun b102 => cond b102 ((boolOf r101).bind fun b103 => cond b103 (some (.ret (.lit (.int .i64 4)), h2)) (some (.ret a1, h2))) ((binAV E .eql 9 a0_ (.lit (.string ⟨#[84, 111, 112]⟩))).bind fun r104 => (boolOf r104).bind fun b105 => cond b105 (some (.ret (.lit (.int .i64 4)), h2)) (some (.ret a1, h2))))))) ((binAV E .eql 9 a0_ (.lit (.string ⟨#[100, 101, 102]⟩))).bind fun r106 => (boolOf r106).bind fun b107 => cond b107 ((boolOf r106).bind fun b108 => cond b108 (some (.ret (.lit (.int .i64 3)), h2)) ((binAV E .eql 9 a0_ (.lit (.string ⟨#[73, 110, 116]⟩))).bind fun r109 => (boolOf r109).bind fun b110 => cond b110 ((boolOf r109).bind fun b111 => cond b111 (some (.ret (.lit (.int .i64 4)), h2)) (some (.ret a1, h2))) ((binAV E .eql 9 a0_ (.lit (.string ⟨#[66, 111, 111, 108]⟩))).bind fun r112 => (boolOf r112).bind fun b113 => cond b113 ((boolOf r112).bind fun b114 => cond b114 (some (.ret (.lit (.int .i64 4)), h2)) (some (.ret a1, h2))) ((binAV E .eql 9 a0_ (.lit (.string ⟨#[83, 116, 114, 105, 110, 103]⟩))).bind fun r115 => (boolOf r115).bind fun b116 => cond b116 ((boolOf r115).bind fun b117 => cond b117 (some (.ret (.lit (.int .i64 4)), h2)) (some (.ret a1, h2))) ((binAV E .eql 9 a0_ (.lit (.string ⟨#[84, 111, 112]⟩))).bind fun r118 => (boolOf r118).bind fun b119 => cond b119 (some (.ret (.lit (.int .i64 4)), h2)) (some (.ret a1, h2))))))) ((binAV E .eql 9 a0_ (.lit (.string ⟨#[116, 114, 117, 101]⟩))).bind fun r120 => (boolOf r120).bind fun b121 => cond b121 ((boolOf r120).bind fun b122 => cond b122 (some (.ret (.lit (.int .i64 3)), h2)) ((binAV E .eql 9 a0_ (.lit (.string ⟨#[73, 110, 116]⟩))).bind fun r123 => (boolOf r123).bind fun b124 => cond b124 ((boolOf r123).bind fun b125 => cond b125 (some (.ret (.lit (.int .i64 4)), h2)) (some (.ret a1, h2))) ((binAV E .eql 9 a0_ (.lit (.string ⟨#[66, 111, 111, 108]⟩))).bind fun r126 => (boolOf r126).bind fun b127 => cond b127 ((boolOf r126).bind fun b128 => cond b128 (some (.ret (.lit (.int .i64 4)), h2)) (some (.ret a1, h2))) ((binAV E .eql 9 a0_ (.lit (.string ⟨#[83, 116, 114, 105, 110, 103]⟩))).bind fun r129 => (boolOf r129).bind fun b130 => cond b130 ((boolOf r129).bind fun b131 => cond b131 (some (.ret (.lit (.int .i64 4)), h2)) (some (.ret a1, h2))) ((binAV E .eql 9 a0_ (.lit (.string ⟨#[84, 111, 112]⟩))).bind fun r132 => (boolOf r132).bind fun b133 => cond b133 (some (.ret (.lit (.int .i64 4)), h2)) (some (.ret a1, h2))))))) ((binAV E .eql 9 a0_ (.lit (.string ⟨#[102, 97, 108, 115, 101]⟩))).bind fun r134 => (boolOf r134).bind fun b135 => cond b135 (some (.ret (.lit (.int .i64 3)), h2)) ((binAV E .eql 9 a0_ (.lit (.string ⟨#[73, 110, 116]⟩))).bind fun r136 => (boolOf r136).bind fun b137 => cond b137 ((boolOf r136).bind fun b138 => cond b138 (some (.ret (.lit (.int .i64 4)), h2)) (some (.ret a1, h2))) ((binAV E .eql 9 a0_ (.lit (.string ⟨#[66, 111, 111, 108]⟩))).bind fun r139 => (boolOf r139).bind fun b140 => cond b140 ((boolOf r139).bind fun b141 => cond b141 (some (.ret (.lit (.int .i64 4)), h2)) (some (.ret a1, h2))) ((binAV E .eql 9 a0_ (.lit (.string ⟨#[83, 116, 114, 105, 110, 103]⟩))).bind fun r142 => (boolOf r142).bind fun b143 => cond b143 ((boolOf r142).bind fun b144 => cond b144 (some (.ret (.lit (.int .i64 4)), h2)) (some (.ret a1, h2))) ((binAV E .eql 9 a0_ (.lit (.string ⟨#[84, 111, 112]⟩))).bind fun r145 => (boolOf r145).bind fun b146 => cond b146 (some (.ret (.lit (.int .i64 4)), h2)) (some (.ret a1, h2)))))))))))) ((binAV E .eql 9 a0_ (.lit (.string ⟨#[105, 102]⟩))).bind fun r147 => (boolOf r147).bind fun b148 => cond b148 ((boolOf r147).bind fun b149 => cond b149 (some (.ret (.lit (.int .i64 3)), h2)) ((binAV E .eql 9 a0_ (.lit (.string ⟨#[102, 110]⟩))).bind fun r150 => (boolOf r150).bind fun b151 => cond b151 ((boolOf r150).bind fun b152 => cond b152 (some (.ret (.lit (.int .i64 3)), h2)) ((binAV E .eql 9 a0_ (.lit (.string ⟨#[73, 110, 116]⟩))).bind fun r153 => (boolOf r153).bind fun b154 => cond b154 ((boolOf r153).bind fun b155 => cond b155 (some (.ret (.lit (.int .i64 4)), h2)) (some (.ret a1, h2))) ((binAV E .eql 9 a0_ (.lit (.string ⟨#[66, 111, 111, 108]⟩))).bind fun r156 => (boolOf r156).bind fun b157 => cond b157 ((boolOf r156).bind fun b158 => cond b158 (some (.ret (.lit (.int .i64 4)), h2)) (some (.ret a1, h2))) ((binAV E .eql 9 a0_ (.lit (.string ⟨#[83, 116, 114, 105, 110, 103]⟩))).bind fun r159 => (boolOf r159).bind fun b160 => cond b160 ((boolOf r159).bind fun b161 => cond b161 (some (.ret (.lit (.int .i64 4)), h2)) (some (.ret a1, h2))) ((binAV E .eql 9 a0_ (.lit (.string ⟨#[84, 111, 112]⟩))).bind fun r162 => (boolOf r162).bind fun b163 => cond b163 (some (.ret (.lit (.int .i64 4)), h2)) (some (.ret a1, h2))))))) ((binAV E .eql 9 a0_ (.lit (.string ⟨#[99, 97, 108, 108]⟩))).bind fun r164 => (boolOf r164).bind fun b165 => cond b165 ((boolOf r164).bind fun b166 => cond b166 (some (.ret (.lit (.int .i64 3)), h2)) ((binAV E .eql 9 a0_ (.lit (.string ⟨#[73, 110, 116]⟩))).bind fun r167 => (boolOf r167).bind fun b168 => cond b168 ((boolOf r167).bind fun b169 => cond b169 (some (.ret (.lit (.int .i64 4)), h2)) (some (.ret a1, h2))) ((binAV E .eql 9 a0_ (.lit (.string ⟨#[66, 111, 111, 108]⟩))).bind fun r170 => (boolOf r170).bind fun b171 => cond b171 ((boolOf r170).bind fun b172 => cond b172 (some (.ret (.lit (.int .i64 4)), h2)) (some (.ret a1, h2))) ((binAV E .eql 9 a0_ (.lit (.string ⟨#[83, 116, 114, 105, 110, 103]⟩))).bind fun r173 => (boolOf r173).bind fun b174 => cond b174 ((boolOf r173).bind fun b175 => cond b175 (some (.ret (.lit (.int .i64 4)), h2)) (some (.ret a1, h2))) ((binAV E .eql 9 a0_ (.lit (.string ⟨#[84, 111, 112]⟩))).bind fun r176 => (boolOf r176).bind fun b177 => cond b177 (some (.ret (.lit (.int .i64 4)), h2)) (some (.ret a1, h2))))))) ((binAV E .eql 9 a0_ (.lit (.string ⟨#[100, 101, 102]⟩))).bind fun r178 => (boolOf r178).bind fun b179 => cond b179 ((boolOf r178).bind fun b180 => cond b180 (some (.ret (.lit (.int .i64 3)), h2)) ((binAV E .eql 9 a0_ (.lit (.string ⟨#[73, 110, 116]⟩))).bind fun r181 => (boolOf r181).bind fun b182 => cond b182 ((boolOf r181).bind fun b183 => cond b183 (some (.ret (.lit (.int .i64 4)), h2)) (some (.ret a1, h2))) ((binAV E .eql 9 a0_ (.lit (.string ⟨#[66, 111, 111, 108]⟩))).bind fun r184 => (boolOf r184).bind fun b185 => cond b185 ((boolOf r184).bind fun b186 => cond b186 (some (.ret (.lit (.int .i64 4)), h2)) (some (.ret a1, h2))) ((binAV E .eql 9 a0_ (.lit (.string ⟨#[83, 116, 114, 105, 110, 103]⟩))).bind fun r187 => (boolOf r187).bind fun b188 => cond b188 ((boolOf r187).bind fun b189 => cond b189 (some (.ret (.lit (.int .i64 4)), h2)) (some (.ret a1, h2))) ((binAV E .eql 9 a0_ (.lit (.string ⟨#[84, 111, 112]⟩))).bind fun r190 => (boolOf r190).bind fun b191 => cond b191 (some (.ret (.lit (.int .i64 4)), h2)) (some (.ret a1, h2))))))) ((binAV E .eql 9 a0_ (.lit (.string ⟨#[116, 114, 117, 101]⟩))).bind fun r192 => (boolOf r192).bind fun b193 => cond b193 ((boolOf r192).bind fun b194 => cond b194 (some (.ret (.lit (.int .i64 3)), h2)) ((binAV E .eql 9 a0_ (.lit (.string ⟨#[73, 110, 116]⟩))).bind fun r195 => (boolOf r195).bind fun b196 => cond b196 ((boolOf r195).bind fun b197 => cond b197 (some (.ret (.lit (.int .i64 4)), h2)) (some (.ret a1, h2))) ((binAV E .eql 9 a0_ (.lit (.string ⟨#[66, 111, 111, 108]⟩))).bind fun r198 => (boolOf r198).bind fun b199 => cond b199 ((boolOf r198).bind fun b200 => cond b200 (some (.ret (.lit (.int .i64 4)), h2)) (some (.ret a1, h2))) ((binAV E .eql 9 a0_ (.lit (.string ⟨#[83, 116, 114, 105, 110, 103]⟩))).bind fun r201 => (boolOf r201).bind fun b202 => cond b202 ((boolOf r201).bind fun b203 => cond b203 (some (.ret (.lit (.int .i64 4)), h2)) (some (.ret a1, h2))) ((binAV E .eql 9 a0_ (.lit (.string ⟨#[84, 111, 112]⟩))).bind fun r204 => (boolOf r204).bind fun b205 => cond b205 (some (.ret (.lit (.int .i64 4)), h2)) (some (.ret a1, h2))))))) ((binAV E .eql 9 a0_ (.lit (.string ⟨#[102, 97, 108, 115, 101]⟩))).bind fun r206 => (boolOf r206).bind fun b207 => cond b207 (some (.ret (.lit (.int .i64 3)), h2)) ((binAV E .eql 9 a0_ (.lit (.string ⟨#[73, 110, 116]⟩))).bind fun r208 => (boolOf r208).bind fun b209 => cond b209 ((boolOf r208).bind fun b210 => cond b210 (some (.ret (.lit (.int .i64 4)), h2)) (some (.ret a1, h2))) ((binAV E .eql 9 a0_ (.lit (.string ⟨#[66, 111, 111, 108]⟩))).bind fun r211 => (boolOf r211).bind fun b212 => cond b212 ((boolOf r211).bind fun b213 => cond b213 (some (.ret (.lit (.int .i64 4)), h2)) (some (.ret a1, h2))) ((binAV E .eql 9 a0_ (.lit (.string ⟨#[83, 116, 114, 105, 110, 103]⟩))).bind fun r214 => (boolOf r214).bind fun b215 => cond b215 ((boolOf r214).bind fun b216 => cond b216 (some (.ret (.lit (.int .i64 4)), h2)) (some (.ret a1, h2))) ((binAV E .eql 9 a0_ (.lit (.string ⟨#[84, 111, 112]⟩))).bind fun r217 => (boolOf r217).bind fun b218 => cond b218 (some (.ret (.lit (.int .i64 4)), h2)) (some (.ret a1, h2)))))))))))) ((binAV E .eql 9 a0_ (.lit (.string ⟨#[116, 104, 101, 110]⟩))).bind fun r219 => (boolOf r219).bind fun b220 => cond b220 ((boolOf r219).bind fun b221 => cond b221 (some (.ret (.lit (.int .i64 3)), h2)) ((binAV E .eql 9 a0_ (.lit (.string ⟨#[102, 110]⟩))).bind fun r222 => (boolOf r222).bind fun b223 => cond b223 ((boolOf r222).bind fun b224 => cond b224 (some (.ret (.lit (.int .i64 3)), h2)) ((binAV E .eql 9 a0_ (.lit (.string ⟨#[73, 110, 116]⟩))).bind fun r225 => (boolOf r225).bind fun b226 => cond b226 ((boolOf r225).bind fun b227 => cond b227 (some (.ret (.lit (.int .i64 4)), h2)) (some (.ret a1, h2))) ((binAV E .eql 9 a0_ (.lit (.string ⟨#[66, 111, 111, 108]⟩))).bind fun r228 => (boolOf r228).bind fun b229 => cond b229 ((boolOf r228).bind fun b230 => cond b230 (some (.ret (.lit (.int .i64 4)), h2)) (some (.ret a1, h2))) ((binAV E .eql 9 a0_ (.lit (.string ⟨#[83, 116, 114, 105, 110, 103]⟩))).bind fun r231 => (boolOf r231).bind fun b232 => cond b232 ((boolOf r231).bind fun b233 => cond b233 (some (.ret (.lit (.int .i64 4)), h2)) (some (.ret a1, h2))) ((binAV E .eql 9 a0_ (.lit (.string ⟨#[84, 111, 112]⟩))).bind fun r234 => (boolOf r234).bind fun b235 => cond b235 (some (.ret (.lit (.int .i64 4)), h2)) (some (.ret a1, h2))))))) ((binAV E .eql 9 a0_ (.lit (.string ⟨#[99, 97, 108, 108]⟩))).bind fun r236 => (boolOf r236).bind fun b237 => cond b237 ((boolOf r236).bind fun b238 => cond b238 (some (.ret (.lit (.int .i64 3)), h2)) ((binAV E .eql 9 a0_ (.lit (.string ⟨#[73, 110, 116]⟩))).bind fun r239 => (boolOf r239).bind fun b240 => cond b240 ((boolOf r239).bind fun b241 => cond b241 (some (.ret (.lit (.int .i64 4)), h2)) (some (.ret a1, h2))) ((binAV E .eql 9 a0_ (.lit (.string ⟨#[66, 111, 111, 108]⟩))).bind fun r242 => (boolOf r242).bind fun b243 => cond b243 ((boolOf r242).bind fun b244 => cond b244 (some (.ret (.lit (.int .i64 4)), h2)) (some (.ret a1, h2))) ((binAV E .eql 9 a0_ (.lit (.string ⟨#[83, 116, 114, 105, 110, 103]⟩))).bind fun r245 => (boolOf r245).bind fun b246 => cond b246 ((boolOf r245).bind fun b247 => cond b247 (some (.ret (.lit (.int .i64 4)), h2)) (some (.ret a1, h2))) ((binAV E .eql 9 a0_ (.lit (.string ⟨#[84, 111, 112]⟩))).bind fun r248 => (boolOf r248).bind fun b249 => cond b249 (some (.ret (.lit (.int .i64 4)), h2)) (some (.ret a1, h2))))))) ((binAV E .eql 9 a0_ (.lit (.string ⟨#[100, 101, 102]⟩))).bind fun r250 => (boolOf r250).bind fun b251 => cond b251 ((boolOf r250).bind fun b252 => cond b252 (some (.ret (.lit (.int .i64 3)), h2)) ((binAV E .eql 9 a0_ (.lit (.string ⟨#[73, 110, 116]⟩))).bind fun r253 => (boolOf r253).bind fun b254 => cond b254 ((boolOf r253).bind fun b255 => cond b255 (some (.ret (.lit (.int .i64 4)), h2)) (some (.ret a1, h2))) ((binAV E .eql 9 a0_ (.lit (.string ⟨#[66, 111, 111, 108]⟩))).bind fun r256 => (boolOf r256).bind fun b257 => cond b257 ((boolOf r256).bind fun b258 => cond b258 (some (.ret (.lit (.int .i64 4)), h2)) (some (.ret a1, h2))) ((binAV E .eql 9 a0_ (.lit (.string ⟨#[83, 116, 114, 105, 110, 103]⟩))).bind fun r259 => (boolOf r259).bind fun b260 => cond b260 ((boolOf r259).bind fun b261 => cond b261 (some (.ret (.lit (.int .i64 4)), h2)) (some (.ret a1, h2))) ((binAV E .eql 9 a0_ (.lit (.string ⟨#[84, 111, 112]⟩))).bind fun r262 => (boolOf r262).bind fun b263 => cond b263 (some (.ret (.lit (.int .i64 4)), h2)) (some (.ret a1, h2))))))) ((binAV E .eql 9 a0_ (.lit (.string ⟨#[116, 114, 117, 101]⟩))).bind fun r264 => (boolOf r264).bind fun b265 => cond b265 ((boolOf r264).bind fun b266 => cond b266 (some (.ret (.lit (.int .i64 3)), h2)) ((binAV E .eql 9 a0_ (.lit (.string ⟨#[73, 110, 116]⟩))).bind fun r267 => (boolOf r267).bind fun b268 => cond b268 ((boolOf r267).bind fun b269 => cond b269 (some (.ret (.lit (.int .i64 4)), h2)) (some (.ret a1, h2))) ((binAV E .eql 9 a0_ (.lit (.string ⟨#[66, 111, 111, 108]⟩))).bind fun r270 => (boolOf r270).bind fun b271 => cond b271 ((boolOf r270).bind fun b272 => cond b272 (some (.ret (.lit (.int .i64 4)), h2)) (some (.ret a1, h2))) ((binAV E .eql 9 a0_ (.lit (.string ⟨#[83, 116, 114, 105, 110, 103]⟩))).bind fun r273 => (boolOf r273).bind fun b274 => cond b274 ((boolOf r273).bind fun b275 => cond b275 (some (.ret (.lit (.int .i64 4)), h2)) (some (.ret a1, h2))) ((binAV E .eql 9 a0_ (.lit (.string ⟨#[84, 111, 112]⟩))).bind fun r276 => (boolOf r276).bind fun b277 => cond b277 (some (.ret (.lit (.int .i64 4)), h2)) (some (.ret a1, h2))))))) ((binAV E .eql 9 a0_ (.lit (.string ⟨#[102, 97, 108, 115, 101]⟩))).bind fun r278 => (boolOf r278).bind fun b279 => cond b279 (some (.ret (.lit (.int .i64 3)), h2)) ((binAV E .eql 9 a0_ (.lit (.string ⟨#[73, 110, 116]⟩))).bind fun r280 => (boolOf r280).bind fun b281 => cond b281 ((boolOf r280).bind fun b282 => cond b282 (some (.ret (.lit (.int .i64 4)), h2)) (some (.ret a1, h2))) ((binAV E .eql 9 a0_ (.lit (.string ⟨#[66, 111, 111, 108]⟩))).bind fun r283 => (boolOf r283).bind fun b284 => cond b284 ((boolOf r283).bind fun b285 => cond b285 (some (.ret (.lit (.int .i64 4)), h2)) (some (.ret a1, h2))) ((binAV E .eql 9 a0_ (.lit (.string ⟨#[83, 116, 114, 105, 110, 103]⟩))).bind fun r286 => (boolOf r286).bind fun b287 => cond b287 ((boolOf r286).bind fun b288 => cond b288 (some (.ret (.lit (.int .i64 4)), h2)) (some (.ret a1, h2))) ((binAV E .eql 9 a0_ (.lit (.string ⟨#[84, 111, 112]⟩))).bind fun r289 => (boolOf r289).bind fun b290 => cond b290 (some (.ret (.lit (.int .i64 4)), h2)) (some (.ret a1, h2)))))))))))) ((binAV E .eql 9 a0_ (.lit (.string ⟨#[101, 108, 115, 101]⟩))).bind fun r291 => (boolOf r291).bind fun b292 => cond b292 (some (.ret (.lit (.int .i64 3)), h2)) ((binAV E .eql 9 a0_ (.lit (.string ⟨#[102, 110]⟩))).bind fun r293 => (boolOf r293).bind fun b294 => cond b294 ((boolOf r293).bind fun b295 => cond b295 (some (.ret (.lit (.int .i64 3)), h2)) ((binAV E .eql 9 a0_ (.lit (.string ⟨#[73, 110, 116]⟩))).bind fun r296 => (boolOf r296).bind fun b297 => cond b297 ((boolOf r296).bind fun b298 => cond b298 (some (.ret (.lit (.int .i64 4)), h2)) (some (.ret a1, h2))) ((binAV E .eql 9 a0_ (.lit (.string ⟨#[66, 111, 111, 108]⟩))).bind fun r299 => (boolOf r299).bind fun b300 => cond b300 ((boolOf r299).bind fun b301 => cond b301 (some (.ret (.lit (.int .i64 4)), h2)) (some (.ret a1, h2))) ((binAV E .eql 9 a0_ (.lit (.string ⟨#[83, 116, 114, 105, 110, 103]⟩))).bind fun r302 => (boolOf r302).bind fun b303 => cond b303 ((boolOf r302).bind fun b304 => cond b304 (some (.ret (.lit (.int .i64 4)), h2)) (some (.ret a1, h2))) ((binAV E .eql 9 a0_ (.lit (.string ⟨#[84, 111, 112]⟩))).bind fun r305 => (boolOf r305).bind fun b306 => cond b306 (some (.ret (.lit (.int .i64 4)), h2)) (some (.ret a1, h2))))))) ((binAV E .eql 9 a0_ (.lit (.string ⟨#[99, 97, 108, 108]⟩))).bind fun r307 => (boolOf r307).bind fun b308 => cond b308 ((boolOf r307).bind fun b309 => cond b309 (some (.ret (.lit (.int .i64 3)), h2)) ((binAV E .eql 9 a0_ (.lit (.string ⟨#[73, 110, 116]⟩))).bind fun r310 => (boolOf r310).bind fun b311 => cond b311 ((boolOf r310).bind fun b312 => cond b312 (some (.ret (.lit (.int .i64 4)), h2)) (some (.ret a1, h2))) ((binAV E .eql 9 a0_ (.lit (.string ⟨#[66, 111, 111, 108]⟩))).bind fun r313 => (boolOf r313).bind fun b314 => cond b314 ((boolOf r313).bind fun b315 => cond b315 (some (.ret (.lit (.int .i64 4)), h2)) (some (.ret a1, h2))) ((binAV E .eql 9 a0_ (.lit (.string ⟨#[83, 116, 114, 105, 110, 103]⟩))).bind fun r316 => (boolOf r316).bind fun b317 => cond b317 ((boolOf r316).bind fun b318 => cond b318 (some (.ret (.lit (.int .i64 4)), h2)) (some (.ret a1, h2))) ((binAV E .eql 9 a0_ (.lit (.string ⟨#[84, 111, 112]⟩))).bind fun r319 => (boolOf r319).bind fun b320 => cond b320 (some (.ret (.lit (.int .i64 4)), h2)) (some (.ret a1, h2))))))) ((binAV E .eql 9 a0_ (.lit (.string ⟨#[100, 101, 102]⟩))).bind fun r321 => (boolOf r321).bind fun b322 => cond b322 ((boolOf r321).bind fun b323 => cond b323 (some (.ret (.lit (.int .i64 3)), h2)) ((binAV E .eql 9 a0_ (.lit (.string ⟨#[73, 110, 116]⟩))).bind fun r324 => (boolOf r324).bind fun b325 => cond b325 ((boolOf r324).bind fun b326 => cond b326 (some (.ret (.lit (.int .i64 4)), h2)) (some (.ret a1, h2))) ((binAV E .eql 9 a0_ (.lit (.string ⟨#[66, 111, 111, 108]⟩))).bind fun r327 => (boolOf r327).bind fun b328 => cond b328 ((boolOf r327).bind fun b329 => cond b329 (some (.ret (.lit (.int .i64 4)), h2)) (some (.ret a1, h2))) ((binAV E .eql 9 a0_ (.lit (.string ⟨#[83, 116, 114, 105, 110, 103]⟩))).bind fun r330 => (boolOf r330).bind fun b331 => cond b331 ((boolOf r330).bind fun b332 => cond b332 (some (.ret (.lit (.int .i64 4)), h2)) (some (.ret a1, h2))) ((binAV E .eql 9 a0_ (.lit (.string ⟨#[84, 111, 112]⟩))).bind fun r333 => (boolOf r333).bind fun b334 => cond b334 (some (.ret (.lit (.int .i64 4)), h2)) (some (.ret a1, h2))))))) ((binAV E .eql 9 a0_ (.lit (.string ⟨#[116, 114, 117, 101]⟩))).bind fun r335 => (boolOf r335).bind fun b336 => cond b336 ((boolOf r335).bind fun b337 => cond b337 (some (.ret (.lit (.int .i64 3)), h2)) ((binAV E .eql 9 a0_ (.lit (.string ⟨#[73, 110, 116]⟩))).bind fun r338 => (boolOf r338).bind fun b339 => cond b339 ((boolOf r338).bind fun b340 => cond b340 (some (.ret (.lit (.int .i64 4)), h2)) (some (.ret a1, h2))) ((binAV E .eql 9 a0_ (.lit (.string ⟨#[66, 111, 111, 108]⟩))).bind fun r341 => (boolOf r341).bind fun b342 => cond b342 ((boolOf r341).bind fun b343 => cond b343 (some (.ret (.lit (.int .i64 4)), h2)) (some (.ret a1, h2))) ((binAV E .eql 9 a0_ (.lit (.string ⟨#[83, 116, 114, 105, 110, 103]⟩))).bind fun r344 => (boolOf r344).bind fun b345 => cond b345 ((boolOf r344).bind fun b346 => cond b346 (some (.ret (.lit (.int .i64 4)), h2)) (some (.ret a1, h2))) ((binAV E .eql 9 a0_ (.lit (.string ⟨#[84, 111, 112]⟩))).bind fun r347 => (boolOf r347).bind fun b348 => cond b348 (some (.ret (.lit (.int .i64 4)), h2)) (some (.ret a1, h2))))))) ((binAV E .eql 9 a0_ (.lit (.string ⟨#[102, 97, 108, 115, 101]⟩))).bind fun r349 => (boolOf r349).bind fun b350 => cond b350 (some (.ret (.lit (.int .i64 3)), h2)) ((binAV E .eql 9 a0_ (.lit (.string ⟨#[73, 110, 116]⟩))).bind fun r351 => (boolOf r351).bind fun b352 => cond b352 ((boolOf r351).bind fun b353 => cond b353 (some (.ret (.lit (.int .i64 4)), h2)) (some (.ret a1, h2))) ((binAV E .eql 9 a0_ (.lit (.string ⟨#[66, 111, 111, 108]⟩))).bind fun r354 => (boolOf r354).bind fun b355 => cond b355 ((boolOf r354).bind fun b356 => cond b356 (some (.ret (.lit (.int .i64 4)), h2)) (some (.ret a1, h2))) ((binAV E .eql 9 a0_ (.lit (.string ⟨#[83, 116, 114, 105, 110, 103]⟩))).bind fun r357 => (boolOf r357).bind fun b358 => cond b358 ((boolOf r357).bind fun b359 => cond b359 (some (.ret (.lit (.int .i64 4)), h2)) (some (.ret a1, h2))) ((binAV E .eql 9 a0_ (.lit (.string ⟨#[84, 111, 112]⟩))).bind fun r360 => (boolOf r360).bind fun b361 => cond b361 (some (.ret (.lit (.int .i64 4)), h2)) (some (.ret a1, h2)))))))))))))))) (fun _ _ _ => none) (fun _ _ => none) := by kernel_rfl
-- 180 limbeck/name.low
theorem nf180 (a0_ : AV) : runF E 180 Try.f180 F n [a0_] h0 = (binAV E .geq 21 a0_ (.lit (.int .i32 97))).bind fun r1 => (boolOf r1).bind fun b2 => cond b2 ((binAV E .leq 21 a0_ (.lit (.int .i32 122))).bind fun r3 => some (.ret r3, h0)) (some (.ret (.lit (.bool false)), h0)) := by kernel_rfl
-- 181 limbeck/name.up
theorem nf181 (a0_ : AV) : runF E 181 Try.f181 F n [a0_] h0 = (binAV E .geq 21 a0_ (.lit (.int .i32 65))).bind fun r1 => (boolOf r1).bind fun b2 => cond b2 ((binAV E .leq 21 a0_ (.lit (.int .i32 90))).bind fun r3 => some (.ret r3, h0)) (some (.ret (.lit (.bool false)), h0)) := by kernel_rfl
-- 182 limbeck/name.digit
theorem nf182 (a0_ : AV) : runF E 182 Try.f182 F n [a0_] h0 = (binAV E .geq 21 a0_ (.lit (.int .i32 48))).bind fun r1 => (boolOf r1).bind fun b2 => cond b2 ((binAV E .leq 21 a0_ (.lit (.int .i32 57))).bind fun r3 => some (.ret r3, h0)) (some (.ret (.lit (.bool false)), h0)) := by kernel_rfl
end
end Go.Sh.T

namespace Go.Sh.T
set_option linter.unusedVariables false
set_option linter.unusedSimpArgs false
open Go Go.Sh Go.Proofs
theorem primsOk : PrimsOk E := by
  intro f p hf call _ args h out h' e
  have hf : lkN prims f = some p := hf
  have hm := lkN_mem hf
  simp only [prims, List.mem_cons, Prod.mk.injEq, List.not_mem_nil, or_false] at hm
  rcases hm with ⟨rfl, rfl⟩ | ⟨rfl, rfl⟩ | ⟨rfl, rfl⟩
  · exact p77_ok call args h out h' e
  · exact p130_ok call args h out h' e
  · exact p178_ok call args h out h' e
theorem primsC : PrimsC E := by
  intro f p hf
  have hf : lkN prims f = some p := hf
  have hm := lkN_mem hf
  simp only [prims, List.mem_cons, Prod.mk.injEq, List.not_mem_nil, or_false] at hm
  rcases hm with ⟨rfl, rfl⟩ | ⟨rfl, rfl⟩ | ⟨rfl, rfl⟩
  · exact PrimC.const _
  · exact PrimC.const _
  · exact PrimC.const _
end Go.Sh.T
