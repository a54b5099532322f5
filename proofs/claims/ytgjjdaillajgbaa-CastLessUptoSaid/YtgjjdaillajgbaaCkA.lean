/- CkA: part of the proof: a shadow of the machine that is proved sound, and what the functions of this seat compute. Conditions: none. -/
import Derived.Test.YtgjjdaillajgbaaShB
import Derived.IntWalk
import Derived.Test.YtgjjdaillajgbaaProg
/- Types as plain data: what the shadow's cells of a type are. -/
namespace Go.Sh.T
set_option linter.unusedVariables false
set_option linter.unusedSimpArgs false
open Go Go.Sh

structure Ty where
  k : Int
  n : Int
  name : ByteArray
  labels : List ByteArray
  args : List Ty

def strC (s : ByteArray) : List AV := [.lit (.string s)]

mutual
def Ty.cells : Ty → List AV
  | ⟨k, n, s, ls, xs⟩ => [.lit (.int .i64 k), .lit (.int .i64 n), .lit (.string s), .sl 1 (ls.map strC), .sl 5 (Ty.cellsL xs)]
def Ty.cellsL : List Ty → List (List AV)
  | [] => []
  | t :: r => t.cells :: Ty.cellsL r
end

theorem Ty.cellsL_map : ∀ l : List Ty, Ty.cellsL l = l.map Ty.cells
  | [] => rfl
  | t :: r => by rw [Ty.cellsL, Ty.cellsL_map r]; rfl

theorem Ty.cells_eq (t : Ty) : t.cells = [.lit (.int .i64 t.k), .lit (.int .i64 t.n), .lit (.string t.name), .sl 1 (t.labels.map strC), .sl 5 (t.args.map Ty.cells)] := by
  cases t; rw [Ty.cells, Ty.cellsL_map]

@[simp] theorem Ty.cells_len (t : Ty) : t.cells.length = 5 := by rw [Ty.cells_eq]; rfl
@[simp] theorem Ty.c0 (t : Ty) : t.cells.getD 0 .dead = .lit (.int .i64 t.k) := by rw [Ty.cells_eq]; rfl
@[simp] theorem Ty.c1 (t : Ty) : t.cells.getD 1 .dead = .lit (.int .i64 t.n) := by rw [Ty.cells_eq]; rfl
@[simp] theorem Ty.c2 (t : Ty) : t.cells.getD 2 .dead = .lit (.string t.name) := by rw [Ty.cells_eq]; rfl
@[simp] theorem Ty.c3 (t : Ty) : t.cells.getD 3 .dead = .sl 1 (t.labels.map strC) := by rw [Ty.cells_eq]; rfl
@[simp] theorem Ty.c4 (t : Ty) : t.cells.getD 4 .dead = .sl 5 (t.args.map Ty.cells) := by rw [Ty.cells_eq]; rfl
theorem Ty.fold (k n : Int) (s : ByteArray) (ls : List ByteArray) (xs : List Ty) : [AV.lit (.int .i64 k), .lit (.int .i64 n), .lit (.string s), .sl 1 (ls.map strC), .sl 5 (xs.map Ty.cells)] = (Ty.mk k n s ls xs).cells := by rw [Ty.cells_eq]

theorem partA_full {n : Nat} {cs : List AV} (h : cs.length = n) : partA true n 0 cs = some (.agg cs) := by
  unfold partA
  subst h
  rw [Nat.zero_add, show Nat.ble cs.length cs.length = true from by simp, cond_true, cond_true, List.drop_zero, List.take_length]
theorem bind_some' {α β : Type} (a : α) (f : α → Option β) : (some a).bind f = f a := (Eq.refl _).trans rfl
theorem onOut_ret {ρ : Type} (a : AV) (h : Heap) (k1 : AV → Heap → Option ρ) (k2 : Nat → List (List AV) → Heap → Option ρ) (k3 : AV → Heap → Option ρ) : onOut (some (.ret a, h)) k1 k2 k3 = k1 a h := (Eq.refl _).trans rfl
theorem bin_int {E : Env} (op : BinOp) (T : TypeId) (k : IntKind) (x y : Int) : binAV E op T (.lit (.int k x)) (.lit (.int k y)) = intBin op k x y := by simp [binAV]
theorem indexA_map {α : Type} (l : List α) (f : α → List AV) (m : Nat) (i : Nat) (h : i < l.length) : indexA m (.sl m (l.map f)) (.lit (.int .i64 (i : Int))) = some (f l[i]) := by
  simp [indexA, slOf, intOf, h]

mutual
def Ty.nodes : Ty → Int
  | ⟨_, _, _, _, xs⟩ => Ty.nodesL 1 xs
def Ty.nodesL : Int → List Ty → Int
  | acc, [] => acc
  | acc, t :: r => Ty.nodesL (IntKind.i64.wrap (acc + t.nodes)) r
end

inductive Ty.Ok : Ty → Prop
  | mk {t : Ty} (hk : (Lit.int .i64 t.k).wf = true) (hn : (Lit.int .i64 t.n).wf = true) (hs : t.name.size ≤ maxLen) (hl : t.labels.length ≤ maxLen) (hls : ∀ s ∈ t.labels, s.size ≤ maxLen) (ha : t.args.length ≤ maxLen) (has : ∀ a ∈ t.args, a.Ok) : t.Ok

theorem Ty.Ok.len {t : Ty} (h : t.Ok) : t.args.length ≤ 9223372036854775807 := by cases h with | mk _ _ _ _ _ ha _ => exact ha
theorem Ty.Ok.arg {t : Ty} (h : t.Ok) {a : Ty} (ha : a ∈ t.args) : a.Ok := by cases h with | mk _ _ _ _ _ _ has => exact has a ha

theorem inc {i : Nat} (h : i < 9223372036854775807) : intBin .add .i64 (i : Int) 1 = some (.lit (.int .i64 ((i + 1 : Nat) : Int))) := by
  simp only [intBin]
  rw [IntWalk.i64_in _ (by omega)]
  simp

theorem Ty.size_arg {t : Ty} {i : Nat} (hi : i < t.args.length) : SizeOf.sizeOf t.args[i] < SizeOf.sizeOf t := by
  have := List.sizeOf_lt_of_mem (List.getElem_mem hi)
  cases t with
  | mk k n s ls xs => simp only [Ty.mk.sizeOf_spec] at *; omega

theorem nodesL_step {acc : Int} {l : List Ty} {i : Nat} (hi : i < l.length) : Ty.nodesL acc (l.drop i) = Ty.nodesL (IntKind.i64.wrap (acc + (l[i]).nodes)) (l.drop (i + 1)) := by
  rw [List.drop_eq_getElem_cons hi, Ty.nodesL]


mutual
def Ty.has (k : Int) : Ty → Bool
  | ⟨k', _, _, _, xs⟩ => k' == k || Ty.hasL k xs
def Ty.hasL (k : Int) : List Ty → Bool
  | [] => false
  | t :: r => t.has k || Ty.hasL k r
end
theorem Ty.has_eq (k : Int) (t : Ty) : t.has k = (t.k == k || Ty.hasL k t.args) := by cases t; rw [Ty.has]

theorem Ty.refold (t : Ty) : [t.cells.getD 0 .dead, t.cells.getD 1 .dead, t.cells.getD 2 .dead, t.cells.getD 3 .dead, t.cells.getD 4 .dead] = t.cells := by
  rw [Ty.cells_eq]; rfl

mutual
def Ty.pre : Ty → List Ty
  | ⟨k, n, s, ls, xs⟩ => ⟨k, n, s, ls, xs⟩ :: Ty.preL xs
def Ty.preL : List Ty → List Ty
  | [] => []
  | t :: r => t.pre ++ Ty.preL r
end
theorem Ty.pre_eq (t : Ty) : t.pre = t :: Ty.preL t.args := by cases t; rw [Ty.pre]
theorem Ty.preL_nil : Ty.preL [] = [] := by rw [Ty.preL]
theorem Ty.preL_cons (t : Ty) (r : List Ty) : Ty.preL (t :: r) = t.pre ++ Ty.preL r := by rw [Ty.preL]
mutual
theorem Ty.has_pre (k : Int) : ∀ t : Ty, t.has k = t.pre.any (fun x => x.k == k)
  | ⟨k', n, s, ls, xs⟩ => by rw [Ty.has, Ty.pre, List.any_cons, Ty.hasL_pre k xs]
theorem Ty.hasL_pre (k : Int) : ∀ l : List Ty, Ty.hasL k l = (Ty.preL l).any (fun x => x.k == k)
  | [] => by rw [Ty.hasL, Ty.preL]; rfl
  | t :: r => by rw [Ty.hasL, Ty.preL, List.any_append, Ty.has_pre k t, Ty.hasL_pre k r]
end

mutual
def Ty.small : Ty → Bool
  | ⟨_, _, _, _, xs⟩ => Nat.ble xs.length 9223372036854775807 && Ty.smallL xs
def Ty.smallL : List Ty → Bool
  | [] => true
  | t :: r => t.small && Ty.smallL r
end
mutual
theorem Ty.ok_small : ∀ t : Ty, t.Ok → t.small = true
  | ⟨k, n, s, ls, xs⟩, h => by
    rw [Ty.small, Bool.and_eq_true]
    exact ⟨by rw [Nat.ble_eq]; exact h.len, Ty.ok_smallL xs fun a ha => h.arg ha⟩
theorem Ty.ok_smallL : ∀ l : List Ty, (∀ a ∈ l, a.Ok) → Ty.smallL l = true
  | [], _ => by rw [Ty.smallL]
  | t :: r, h => by
    rw [Ty.smallL, Bool.and_eq_true]
    exact ⟨Ty.ok_small t (h t List.mem_cons_self), Ty.ok_smallL r fun a ha => h a (List.mem_cons_of_mem _ ha)⟩
end

/- reading a type back -/
def decS : List AV → Option ByteArray
  | [.lit (.string s)] => some s
  | _ => none
def decSs : List (List AV) → Option (List ByteArray)
  | [] => some []
  | x :: r => (decS x).bind fun s => (decSs r).bind fun l => some (s :: l)
mutual
def decA : AV → Option (List Ty)
  | .sl 5 es => decE es
  | _ => none
def decC : List AV → Option Ty
  | [] => none
  | a :: r => match a, r with
    | .lit (.int .i64 k), [.lit (.int .i64 n), .lit (.string s), .sl 1 ls, b] => (decSs ls).bind fun l => (decA b).bind fun xs => some ⟨k, n, s, l, xs⟩
    | _, _ => none
def decE : List (List AV) → Option (List Ty)
  | [] => some []
  | c :: r => (decC c).bind fun t => (decE r).bind fun l => some (t :: l)
end
theorem decS_ok : ∀ {x : List AV} {s : ByteArray}, decS x = some s → x = strC s := by
  intro x s h
  unfold decS at h
  split at h
  · have h := Option.some.inj h; subst h; rfl
  · cases h
theorem decSs_ok : ∀ {l : List (List AV)} {m : List ByteArray}, decSs l = some m → l = m.map strC
  | [], m, h => by cases h; rfl
  | x :: r, m, h => by
    unfold decSs at h
    rw [Option.bind_eq_some_iff] at h; obtain ⟨s, hs, h⟩ := h
    rw [Option.bind_eq_some_iff] at h; obtain ⟨l, hl, h⟩ := h
    have h := Option.some.inj h; subst h
    rw [decS_ok hs, decSs_ok hl]; rfl
mutual
theorem decA_ok : ∀ {a : AV} {l : List Ty}, decA a = some l → a = .sl 5 (l.map Ty.cells)
  | .sl n es, l, h => by
    unfold decA at h
    split at h
    · rename_i h1 h2; cases h2; rw [decE_ok h]
    · cases h
  | .lit _, l, h => by unfold decA at h; cases h
  | .agg _, l, h => by unfold decA at h; cases h
  | .tup _, l, h => by unfold decA at h; cases h
  | .hp _ _, l, h => by unfold decA at h; cases h
  | .ro _, l, h => by unfold decA at h; cases h
  | .fn _ _ _, l, h => by unfold decA at h; cases h
  | .ifc _ _, l, h => by unfold decA at h; cases h
  | .dead, l, h => by unfold decA at h; cases h
theorem decC_ok : ∀ {c : List AV} {t : Ty}, decC c = some t → c = t.cells
  | [], t, h => by unfold decC at h; cases h
  | a :: r, t, h => by
    unfold decC at h
    split at h
    · rename_i k n s ls b
      rw [Option.bind_eq_some_iff] at h; obtain ⟨l, hl, h⟩ := h
      rw [Option.bind_eq_some_iff] at h; obtain ⟨xs, hx, h⟩ := h
      have h := Option.some.inj h; subst h
      rw [Ty.cells_eq, decSs_ok hl, decA_ok hx]
    · cases h
theorem decE_ok : ∀ {es : List (List AV)} {l : List Ty}, decE es = some l → es = l.map Ty.cells
  | [], l, h => by unfold decE at h; cases h; rfl
  | c :: r, l, h => by
    unfold decE at h
    rw [Option.bind_eq_some_iff] at h; obtain ⟨t, ht, h⟩ := h
    rw [Option.bind_eq_some_iff] at h; obtain ⟨m, hm, h⟩ := h
    have h := Option.some.inj h; subst h
    rw [decC_ok ht, decE_ok hm]; rfl
end
theorem decSs_map : ∀ l : List ByteArray, decSs (l.map strC) = some l
  | [] => rfl
  | s :: r => by
    rw [List.map_cons, decSs, decSs_map r]; rfl
mutual
theorem decC_cells : ∀ t : Ty, decC t.cells = some t
  | ⟨k, n, s, ls, xs⟩ => by
    rw [Ty.cells, decC, decSs_map, decA, decE_cells xs]; rfl
theorem decE_cells : ∀ l : List Ty, decE (Ty.cellsL l) = some l
  | [] => by rw [Ty.cellsL, decE]
  | t :: r => by
    rw [Ty.cellsL, decE, decC_cells t, decE_cells r]; rfl
end

/- not by computing: the kernel is to compare nothing -/
theorem condF {α : Type} (x y : α) : cond false x y = y := by
  have h : ∀ b, b = false → cond b x y = y := by intro b hb; subst hb; rfl
  exact h false rfl
theorem condT {α : Type} (x y : α) : cond true x y = x := by
  have h : ∀ b, b = true → cond b x y = x := by intro b hb; subst hb; rfl
  exact h true rfl

def add64 (x y : Int) : Int := IntKind.i64.wrap (x + y)
def sub64 (x y : Int) : Int := IntKind.i64.wrap (x - y)
theorem lssI (x y : Int) : intBin .lss .i64 x y = some (.lit (.bool (decide (x < y)))) := (Eq.refl _).trans rfl
theorem gtrI (x y : Int) : intBin .gtr .i64 x y = some (.lit (.bool (decide (x > y)))) := (Eq.refl _).trans rfl
theorem leqI (x y : Int) : intBin .leq .i64 x y = some (.lit (.bool (decide (x ≤ y)))) := (Eq.refl _).trans rfl
theorem geqI (x y : Int) : intBin .geq .i64 x y = some (.lit (.bool (decide (x ≥ y)))) := (Eq.refl _).trans rfl
theorem eqlI (x y : Int) : intBin .eql .i64 x y = some (.lit (.bool (x == y))) := (Eq.refl _).trans rfl
theorem neqI (x y : Int) : intBin .neq .i64 x y = some (.lit (.bool (x != y))) := (Eq.refl _).trans rfl
theorem addI (x y : Int) : intBin .add .i64 x y = some (.lit (.int .i64 (add64 x y))) := (Eq.refl _).trans rfl
theorem subI (x y : Int) : intBin .sub .i64 x y = some (.lit (.int .i64 (sub64 x y))) := (Eq.refl _).trans rfl
theorem incI {i : Nat} (h : i < 9223372036854775807) : add64 (i : Int) 1 = ((i + 1 : Nat) : Int) := by
  unfold add64
  rw [IntWalk.i64_in _ (by omega)]; rfl
theorem boolB (b : Bool) : boolOf (.lit (.bool b)) = some b := (Eq.refl _).trans rfl
theorem notB (b : Bool) : unAV .not (.lit (.bool b)) = some (.lit (.bool (!b))) := (Eq.refl _).trans rfl
theorem aggS (l : List AV) : aggOf (.agg l) = some l := (Eq.refl _).trans rfl
theorem tupS (l : List AV) : tupOf (.tup l) = some l := (Eq.refl _).trans rfl
theorem ltT {i n : Nat} (h : i < n) : decide ((i : Int) < (n : Int)) = true := by simpa using h
theorem ltF {i n : Nat} (h : ¬ i < n) : decide ((i : Int) < (n : Int)) = false := by simpa using h

/- the heap -/
theorem hpart_app (agg : Bool) (n off i : Nat) (h hs : Heap) : hpart agg n off (h.length + i) (h ++ hs) = hpart agg n off i hs := by
  unfold hpart
  rw [List.getElem?_append_right (by omega), Nat.add_sub_cancel_left]
theorem hpart_app0 (agg : Bool) (n off : Nat) (h hs : Heap) : hpart agg n off h.length (h ++ hs) = hpart agg n off 0 hs := hpart_app agg n off 0 h hs
theorem hstore_app (h hs : Heap) (i off : Nat) (l : List Cell) : hstore (h ++ hs) (h.length + i) off l = (hstore hs i off l).map (h ++ ·) := by
  unfold hstore
  rw [List.getElem?_append_right (by omega), Nat.add_sub_cancel_left]
  cases hs[i]? with
  | none => rfl
  | some cs =>
    simp only [Option.bind_some]
    cases splice cs off l with
    | none => rfl
    | some cs' => simp
theorem hstore_app0 (h hs : Heap) (off : Nat) (l : List Cell) : hstore (h ++ hs) h.length off l = (hstore hs 0 off l).map (h ++ ·) := hstore_app h hs 0 off l
theorem trunc_app {H : FHint} (hb : (H.hb.isEmpty || H.esc) = false) {h hs : Heap} {out : Out} (ho : out.lt h.length) : trunc H h out (h ++ hs) = some (out, h) := by
  rw [trunc_of hb ⟨ho, by simp, .inl (by simp)⟩, List.take_left]
mutual
theorem Ty.cells_lt (m : Nat) : ∀ t : Ty, ∀ a ∈ t.cells, AV.lt m a
  | ⟨k, n, s, ls, xs⟩ => by
    intro a ha
    rw [Ty.cells] at ha
    simp only [List.mem_cons, List.not_mem_nil, or_false] at ha
    rcases ha with e | e | e | e | e
    · rw [e]; exact .lit _
    · rw [e]; exact .lit _
    · rw [e]; exact .lit _
    · rw [e]; refine .sl _ fun x hx b hb => ?_
      obtain ⟨s, _, rfl⟩ := List.mem_map.1 hx
      rcases List.mem_cons.1 hb with e | e
      · rw [e]; exact .lit _
      · cases e
    · rw [e]; exact .sl _ (Ty.cellsL_lt m xs)
theorem Ty.cellsL_lt (m : Nat) : ∀ l : List Ty, ∀ x ∈ Ty.cellsL l, ∀ a ∈ x, AV.lt m a
  | [] => by intro x hx; rw [Ty.cellsL] at hx; cases hx
  | t :: r => by
    intro x hx
    rw [Ty.cellsL] at hx
    rcases List.mem_cons.1 hx with e | e
    · rw [e]; exact Ty.cells_lt m t
    · exact Ty.cellsL_lt m r x e
end
end Go.Sh.T

namespace Go.Sh.T
open Go Go.Sh Go.Proofs
set_option maxRecDepth 1000000
set_option linter.unusedVariables false
noncomputable def ti1 : TI := { size := 1, bytes := 8, desc := .func #[] #[] false, zero := [.v (.lit .nilFunc)] }
theorem tok1 : TyOk Try.prog 1 ti1 := .of (by kernel_rfl) (by kernel_rfl)
noncomputable def ti3 : TI := { size := 1, bytes := 8, desc := .int .i64, zero := [.v (.lit (.int .i64 0))] }
theorem tok3 : TyOk Try.prog 3 ti3 := .of (by kernel_rfl) (by kernel_rfl)
noncomputable def ti4 : TI := { size := 1, bytes := 1, desc := .bool, zero := [.v (.lit (.bool false))] }
theorem tok4 : TyOk Try.prog 4 ti4 := .of (by kernel_rfl) (by kernel_rfl)
noncomputable def ti5 : TI := { size := 1, bytes := 1, desc := .int .u8, zero := [.v (.lit (.int .u8 0))] }
theorem tok5 : TyOk Try.prog 5 ti5 := .of (by kernel_rfl) (by kernel_rfl)
noncomputable def ti9 : TI := { size := 1, bytes := 16, desc := .string, zero := [.v (.lit (.string ByteArray.empty))] }
theorem tok9 : TyOk Try.prog 9 ti9 := .of (by kernel_rfl) (by kernel_rfl)
noncomputable def ti20 : TI := { size := 1, bytes := 16, desc := .interface #[], zero := [.v (.lit .nilIface)] }
theorem tok20 : TyOk Try.prog 20 ti20 := .of (by kernel_rfl) (by kernel_rfl)
noncomputable def ti21 : TI := { size := 1, bytes := 4, desc := .int .i32, zero := [.v (.lit (.int .i32 0))] }
theorem tok21 : TyOk Try.prog 21 ti21 := .of (by kernel_rfl) (by kernel_rfl)
noncomputable def ti22 : TI := { size := 1, bytes := 24, desc := .slice 37, zero := [.nil 12] }
theorem tok22 : TyOk Try.prog 22 ti22 := .of (by kernel_rfl) (by kernel_rfl)
noncomputable def ti23 : TI := { size := 1, bytes := 24, desc := .slice 35, zero := [.nil 6] }
theorem tok23 : TyOk Try.prog 23 ti23 := .of (by kernel_rfl) (by kernel_rfl)
noncomputable def ti25 : TI := { size := 2, bytes := 24, desc := .struct #[⟨"Def", 9, 0, false, "", "", 0⟩, ⟨"Node", 3, 1, false, "", "", 16⟩], zero := [.v (.lit (.string ByteArray.empty)), .v (.lit (.int .i64 0))] }
theorem tok25 : TyOk Try.prog 25 ti25 := .of (by kernel_rfl) (by kernel_rfl)
noncomputable def ti29 : TI := { size := 1, bytes := 24, desc := .slice 33, zero := [.nil 5] }
theorem tok29 : TyOk Try.prog 29 ti29 := .of (by kernel_rfl) (by kernel_rfl)
noncomputable def ti31 : TI := { size := 1, bytes := 24, desc := .slice 9, zero := [.nil 1] }
theorem tok31 : TyOk Try.prog 31 ti31 := .of (by kernel_rfl) (by kernel_rfl)
noncomputable def ti33 : TI := { size := 5, bytes := 80, desc := .struct #[⟨"K", 3, 0, false, "", "", 0⟩, ⟨"N", 3, 1, false, "", "", 8⟩, ⟨"Name", 9, 2, false, "", "", 16⟩, ⟨"Labels", 31, 3, false, "", "", 32⟩, ⟨"Args", 29, 4, false, "", "", 56⟩], zero := [.v (.lit (.int .i64 0)), .v (.lit (.int .i64 0)), .v (.lit (.string ByteArray.empty)), .nil 1, .nil 5] }
theorem tok33 : TyOk Try.prog 33 ti33 := .of (by kernel_rfl) (by kernel_rfl)
noncomputable def ti35 : TI := { size := 6, bytes := 96, desc := .struct #[⟨"Name", 9, 0, false, "", "", 0⟩, ⟨"Type", 33, 1, false, "", "", 16⟩], zero := [.v (.lit (.string ByteArray.empty)), .v (.lit (.int .i64 0)), .v (.lit (.int .i64 0)), .v (.lit (.string ByteArray.empty)), .nil 1, .nil 5] }
theorem tok35 : TyOk Try.prog 35 ti35 := .of (by kernel_rfl) (by kernel_rfl)
noncomputable def ti37 : TI := { size := 12, bytes := 184, desc := .struct #[⟨"Rep", 33, 0, false, "", "", 0⟩, ⟨"Bound", 33, 5, false, "", "", 80⟩, ⟨"At", 25, 10, false, "", "", 160⟩], zero := [.v (.lit (.int .i64 0)), .v (.lit (.int .i64 0)), .v (.lit (.string ByteArray.empty)), .nil 1, .nil 5, .v (.lit (.int .i64 0)), .v (.lit (.int .i64 0)), .v (.lit (.string ByteArray.empty)), .nil 1, .nil 5, .v (.lit (.string ByteArray.empty)), .v (.lit (.int .i64 0))] }
theorem tok37 : TyOk Try.prog 37 ti37 := .of (by kernel_rfl) (by kernel_rfl)
noncomputable def ti43 : TI := { size := 1, bytes := 8, desc := .func #[33, 33] #[4] false, zero := [.v (.lit .nilFunc)] }
theorem tok43 : TyOk Try.prog 43 ti43 := .of (by kernel_rfl) (by kernel_rfl)
noncomputable def ti46 : TI := { size := 1, bytes := 8, desc := .func #[33] #[4] false, zero := [.v (.lit .nilFunc)] }
theorem tok46 : TyOk Try.prog 46 ti46 := .of (by kernel_rfl) (by kernel_rfl)
noncomputable def ti55 : TI := { size := 1, bytes := 24, desc := .slice 66, zero := [.nil 10] }
theorem tok55 : TyOk Try.prog 55 ti55 := .of (by kernel_rfl) (by kernel_rfl)
noncomputable def ti66 : TI := { size := 10, bytes := 144, desc := .struct #[⟨"K", 3, 0, false, "", "", 0⟩, ⟨"N", 3, 1, false, "", "", 8⟩, ⟨"M", 3, 2, false, "", "", 16⟩, ⟨"In", 4, 3, false, "", "", 24⟩, ⟨"S", 9, 4, false, "", "", 32⟩, ⟨"At", 25, 5, false, "", "", 48⟩, ⟨"Types", 29, 7, false, "", "", 72⟩, ⟨"Labels", 31, 8, false, "", "", 96⟩, ⟨"Kids", 55, 9, false, "", "", 120⟩], zero := [.v (.lit (.int .i64 0)), .v (.lit (.int .i64 0)), .v (.lit (.int .i64 0)), .v (.lit (.bool false)), .v (.lit (.string ByteArray.empty)), .v (.lit (.string ByteArray.empty)), .v (.lit (.int .i64 0)), .nil 5, .nil 1, .nil 10] }
theorem tok66 : TyOk Try.prog 66 ti66 := .of (by kernel_rfl) (by kernel_rfl)
noncomputable def ti68 : TI := { size := 1, bytes := 8, desc := .func #[66, 66] #[4] false, zero := [.v (.lit .nilFunc)] }
theorem tok68 : TyOk Try.prog 68 ti68 := .of (by kernel_rfl) (by kernel_rfl)
noncomputable def ti78 : TI := { size := 13, bytes := 176, desc := .struct #[⟨"V", 66, 0, false, "", "", 0⟩, ⟨"At", 25, 10, false, "", "", 144⟩, ⟨"Ok", 4, 12, false, "", "", 168⟩], zero := [.v (.lit (.int .i64 0)), .v (.lit (.int .i64 0)), .v (.lit (.int .i64 0)), .v (.lit (.bool false)), .v (.lit (.string ByteArray.empty)), .v (.lit (.string ByteArray.empty)), .v (.lit (.int .i64 0)), .nil 5, .nil 1, .nil 10, .v (.lit (.string ByteArray.empty)), .v (.lit (.int .i64 0)), .v (.lit (.bool false))] }
theorem tok78 : TyOk Try.prog 78 ti78 := .of (by kernel_rfl) (by kernel_rfl)
noncomputable def ti95 : TI := { size := 1, bytes := 8, desc := .func #[33, 3] #[33] false, zero := [.v (.lit .nilFunc)] }
theorem tok95 : TyOk Try.prog 95 ti95 := .of (by kernel_rfl) (by kernel_rfl)
noncomputable def ti110 : TI := { size := 2, bytes := 24, desc := .struct #[⟨"at", 25, 0, false, "", "limbeck/cast", 0⟩], zero := [.v (.lit (.string ByteArray.empty)), .v (.lit (.int .i64 0))] }
theorem tok110 : TyOk Try.prog 110 ti110 := .of (by kernel_rfl) (by kernel_rfl)
noncomputable def ti111 : TI := { size := 1, bytes := 8, desc := .pointer 113, zero := [.v (.lit (.pointer none))] }
theorem tok111 : TyOk Try.prog 111 ti111 := .of (by kernel_rfl) (by kernel_rfl)
noncomputable def ti113 : TI := { size := 1, bytes := 24, desc := .struct #[⟨"l", 22, 0, false, "", "limbeck/cast", 0⟩], zero := [.nil 12] }
theorem tok113 : TyOk Try.prog 113 ti113 := .of (by kernel_rfl) (by kernel_rfl)
noncomputable def ti139 : TI := { size := 1, bytes := 8, desc := .func #[46] #[] false, zero := [.v (.lit .nilFunc)] }
theorem tok139 : TyOk Try.prog 139 ti139 := .of (by kernel_rfl) (by kernel_rfl)
noncomputable def ti140 : TI := { size := 1, bytes := 8, desc := .func #[46] #[] false, zero := [.v (.lit .nilFunc)] }
theorem tok140 : TyOk Try.prog 140 ti140 := .of (by kernel_rfl) (by kernel_rfl)
noncomputable def ti148 : TI := { size := 1, bytes := 8, desc := .func #[3, 66] #[66] false, zero := [.v (.lit .nilFunc)] }
theorem tok148 : TyOk Try.prog 148 ti148 := .of (by kernel_rfl) (by kernel_rfl)
noncomputable def ti149 : TI := { size := 1, bytes := 24, desc := .slice 3, zero := [.nil 1] }
theorem tok149 : TyOk Try.prog 149 ti149 := .of (by kernel_rfl) (by kernel_rfl)
noncomputable def fs : List (Nat × Func) := [(3, Try.f3), (4, Try.f4), (5, Try.f5), (29, Try.f29), (30, Try.f30), (31, Try.f31), (33, Try.f33), (34, Try.f34), (35, Try.f35), (84, Try.f84), (86, Try.f86), (87, Try.f87), (139, Try.f139), (140, Try.f140), (157, Try.f157), (15, Try.f15), (16, Try.f16), (17, Try.f17), (18, Try.f18), (19, Try.f19), (20, Try.f20), (21, Try.f21), (22, Try.f22), (23, Try.f23), (24, Try.f24), (25, Try.f25), (26, Try.f26), (27, Try.f27), (28, Try.f28), (32, Try.f32), (69, Try.f69), (72, Try.f72), (73, Try.f73), (74, Try.f74), (75, Try.f75), (76, Try.f76), (78, Try.f78), (79, Try.f79), (80, Try.f80), (81, Try.f81), (82, Try.f82), (83, Try.f83), (85, Try.f85), (131, Try.f131), (132, Try.f132), (133, Try.f133), (134, Try.f134), (135, Try.f135), (136, Try.f136), (137, Try.f137), (138, Try.f138), (141, Try.f141), (160, Try.f160), (161, Try.f161), (162, Try.f162), (163, Try.f163), (164, Try.f164), (165, Try.f165), (166, Try.f166), (167, Try.f167), (180, Try.f180), (181, Try.f181), (182, Try.f182), (10, Try.f10), (11, Try.f11), (12, Try.f12), (13, Try.f13), (14, Try.f14), (48, Try.f48), (50, Try.f50), (51, Try.f51), (56, Try.f56), (57, Try.f57), (58, Try.f58), (60, Try.f60), (61, Try.f61), (62, Try.f62), (63, Try.f63), (64, Try.f64), (65, Try.f65), (66, Try.f66), (67, Try.f67), (68, Try.f68), (70, Try.f70), (71, Try.f71), (96, Try.f96), (97, Try.f97), (100, Try.f100), (101, Try.f101), (102, Try.f102), (108, Try.f108), (109, Try.f109), (110, Try.f110), (111, Try.f111), (112, Try.f112), (113, Try.f113), (114, Try.f114), (115, Try.f115), (116, Try.f116), (117, Try.f117), (118, Try.f118), (119, Try.f119), (120, Try.f120), (121, Try.f121), (122, Try.f122), (123, Try.f123), (124, Try.f124), (125, Try.f125), (126, Try.f126), (127, Try.f127), (128, Try.f128), (129, Try.f129), (147, Try.f147), (148, Try.f148), (149, Try.f149), (150, Try.f150), (151, Try.f151), (152, Try.f152), (153, Try.f153), (154, Try.f154), (155, Try.f155), (156, Try.f156), (158, Try.f158), (159, Try.f159), (168, Try.f168), (169, Try.f169), (170, Try.f170), (171, Try.f171), (172, Try.f172), (173, Try.f173), (174, Try.f174), (175, Try.f175), (179, Try.f179), (103, Try.f103)]
noncomputable def gs : List (Nat × Func) := [(77, Try.f77), (130, Try.f130), (176, Try.f176), (177, Try.f177), (178, Try.f178), (59, Try.f59), (107, Try.f107)]
noncomputable def ts : List (Nat × TI) := [(1, ti1), (3, ti3), (4, ti4), (5, ti5), (9, ti9), (20, ti20), (21, ti21), (22, ti22), (23, ti23), (25, ti25), (29, ti29), (31, ti31), (33, ti33), (35, ti35), (37, ti37), (43, ti43), (46, ti46), (55, ti55), (66, ti66), (68, ti68), (78, ti78), (95, ti95), (110, ti110), (111, ti111), (113, ti113), (139, ti139), (140, ti140), (148, ti148), (149, ti149)]
noncomputable def hints : List (Nat × FHint) := [(3, { tr := [58], keep := [(0, [0, 1, 2, 7, 9, 10, 11]), (2, [0, 2, 7, 9, 13, 14, 15])], base := [(140, 16), (151, 16), (164, 16)] }), (4, {}), (5, { tr := [59, 67], keep := [(0, [0, 1, 2, 4, 9, 11, 13, 14, 15])], base := [(42, 9)] }), (29, { tr := [27], keep := [(0, [0, 1, 2, 7, 10, 11])] }), (30, {}), (31, {}), (33, { base := [(15, 5)] }), (34, {}), (35, {}), (84, { tr := [84], keep := [(0, [0, 2, 5, 8, 11, 12, 13])], base := [(17, 5), (20, 5), (24, 5), (30, 5), (39, 5), (44, 5), (54, 12), (56, 5), (64, 5), (83, 12), (88, 12)] }), (86, { tr := [46], keep := [(0, [1, 2, 6, 8, 39, 40, 41])], base := [(22, 3), (25, 3), (37, 8), (38, 3), (45, 8), (53, 8)] }), (87, {}), (139, { keep := [(0, [0, 1, 7, 8])] }), (140, { tr := [33], keep := [(0, [1, 2, 3, 6, 8, 9])], base := [(10, 3), (14, 3), (24, 8), (26, 3), (32, 8), (34, 3), (44, 8)] }), (157, { keep := [(0, [0, 1, 5])] }), (15, { keep := [(0, [0, 3, 4])] }), (16, { keep := [(0, [0, 3, 4])] }), (17, { base := [(65, 5), (70, 5)] }), (18, { keep := [(0, [0, 3])], base := [(15, 4), (20, 4), (26, 4), (32, 4), (37, 4), (43, 4)] }), (19, { tr := [26], owns := [14], keep := [(0, [0, 1, 7, 10, 15, 16, 17])], base := [(31, 12)] }), (20, { keep := [(0, [0, 5, 6, 7])], base := [(12, 4), (18, 4)] }), (21, {}), (22, { keep := [(0, [0, 1, 5])] }), (23, { keep := [(0, [2, 3, 5])], base := [(6, 2), (8, 3), (12, 2), (14, 3), (19, 2), (21, 3), (26, 2), (28, 3), (34, 2), (37, 3), (43, 2), (49, 3), (56, 2), (61, 3)] }), (24, { keep := [(0, [1, 3, 4]), (2, [1, 3, 5])], base := [(6, 1), (11, 1), (16, 1), (27, 1), (36, 1), (47, 1)] }), (25, { keep := [(0, [1, 3])], base := [(5, 1), (11, 1), (18, 1), (22, 1), (27, 1), (31, 1), (37, 1), (41, 1), (47, 1), (51, 1), (55, 1), (59, 1), (62, 1), (66, 1), (71, 1), (74, 1), (78, 1), (83, 1), (88, 1), (91, 1), (95, 1), (99, 1), (104, 1), (107, 1)] }), (26, { hb := [2, 6, 7], hp := [2, 6, 7] }), (27, { keep := [(0, [1, 2, 5])], base := [(6, 2), (11, 2), (17, 2)] }), (28, {}), (32, { base := [(15, 5), (16, 5), (21, 5)] }), (69, {}), (72, {}), (73, {}), (74, {}), (75, {}), (76, { keep := [(0, [1, 2, 5])], base := [(6, 2), (10, 2), (16, 2), (22, 2)] }), (78, {}), (79, { keep := [(0, [0, 1, 5])] }), (80, {}), (81, { keep := [(0, [0, 3])] }), (82, { tr := [52], hp := [2, 3, 4], keep := [(0, [1, 3, 4, 7, 10, 43, 44, 45])], base := [(13, 5), (18, 5), (26, 5), (33, 8), (35, 5), (41, 10), (42, 5), (51, 10), (59, 10)] }), (83, { keep := [(0, [1, 3, 4])], base := [(6, 1), (13, 1)] }), (85, { base := [(7, 1), (11, 1), (19, 1), (25, 1), (30, 1), (36, 1), (41, 1), (46, 1), (52, 1), (58, 1), (61, 1), (66, 1)] }), (131, { hb := [3], hp := [3], base := [(5, 2), (8, 2), (12, 2)] }), (132, { keep := [(0, [0, 4, 5])] }), (133, {}), (134, { base := [(3, 1), (7, 1), (12, 1), (16, 1), (22, 1), (26, 1)] }), (135, {}), (136, {}), (137, {}), (138, { keep := [(0, [0, 5, 6, 7])] }), (141, {}), (160, { hb := [1], hp := [1], esc := true }), (161, { hp := [1] }), (162, { keep := [(0, [0, 3, 4]), (2, [0, 5, 6])] }), (163, {}), (164, {}), (165, {}), (166, { keep := [(0, [0, 1, 7, 8])] }), (167, {}), (180, {}), (181, {}), (182, {}), (10, { base := [(27, 9), (81, 14), (86, 14), (92, 14)] }), (11, { keep := [(0, [0, 12, 14, 15])] }), (12, {}), (13, {}), (14, {}), (48, { keep := [(0, [1, 3, 4]), (2, [1, 3, 5])], base := [(6, 1), (11, 1), (15, 1), (16, 1), (22, 1), (33, 1), (41, 1), (52, 1)] }), (50, { base := [(5, 2), (7, 3), (11, 2), (13, 3), (18, 2), (20, 3), (25, 2), (27, 3), (32, 2), (34, 3), (39, 2), (41, 3), (45, 2), (47, 3), (51, 2), (53, 3), (58, 2), (60, 3)] }), (51, { base := [(5, 2), (7, 3), (11, 2), (13, 3), (18, 2), (20, 3), (25, 2), (27, 3), (32, 2), (34, 3), (39, 2), (41, 3), (46, 2), (48, 3), (54, 2), (56, 3), (61, 2), (63, 3)] }), (56, { keep := [(0, [0, 2, 4, 7])] }), (57, { keep := [(0, [0, 3])] }), (58, { base := [(73, 5), (90, 12)] }), (60, { tr := [106], keep := [(0, [0, 6, 7, 8, 9, 10, 11, 12])], base := [(20, 7), (27, 6), (31, 6), (33, 7), (66, 7), (70, 8), (79, 7), (83, 8), (88, 8), (96, 8), (112, 8), (115, 8)], keepR := [(6, [0, 6, 8, 9, 10, 36]), (9, [0, 6, 7, 8, 9, 10, 49]), (15, [0, 6, 7, 8, 9, 10, 73]), (17, [0, 6, 7, 8, 9, 10, 86])] }), (61, {}), (62, {}), (63, {}), (64, {}), (65, { keep := [(0, [1, 3])], base := [(8, 1), (14, 1)] }), (66, { keep := [(0, [0, 4, 5, 7]), (2, [0, 4, 8])], base := [(9, 5), (12, 4), (15, 5), (18, 4), (21, 5), (24, 4), (27, 5), (32, 5), (35, 4), (39, 4), (41, 5), (50, 5), (53, 4), (57, 4), (59, 5), (65, 4), (68, 5), (74, 4), (80, 5), (88, 4), (93, 5), (100, 5), (104, 5), (108, 4), (115, 4), (120, 4), (127, 4), (135, 4), (139, 4), (144, 4), (149, 4)] }), (67, {}), (68, {}), (70, { keep := [(0, [2, 3, 5])], base := [(13, 2), (19, 3), (26, 2), (31, 3)] }), (71, { keep := [(0, [5, 6, 7])], base := [(22, 5), (24, 6), (27, 5), (34, 5), (42, 5), (52, 5)] }), (96, { keep := [(0, [0, 1, 5])] }), (97, { keep := [(0, [0, 1, 5])] }), (100, { keep := [(0, [1, 2, 15, 16, 17])] }), (101, { base := [(5, 2), (7, 3), (11, 2), (13, 3), (18, 2), (20, 3), (25, 2), (27, 3), (32, 2), (34, 3)] }), (102, { keep := [(0, [0, 1, 12, 13])] }), (108, { hp := [0, 38, 54, 62, 90], pans := [31, 37, 42, 58, 66, 80, 95, 97], base := [(17, 7), (26, 7), (33, 7), (68, 7), (72, 8), (82, 7), (86, 8)], keepR := [(3, [0, 6, 7, 8, 9, 10, 16]), (9, [0, 6, 7, 8, 9, 10, 43]), (15, [0, 6, 7, 8, 9, 10, 67]), (17, [0, 6, 7, 8, 9, 10, 81])] }), (109, {}), (110, { base := [(3, 1), (7, 1)] }), (111, {}), (112, { base := [(14, 5), (19, 5), (23, 5), (34, 5), (41, 5), (45, 9), (47, 9), (49, 9), (52, 11), (57, 11), (59, 9)] }), (113, { base := [(10, 5), (13, 6), (17, 6), (19, 5), (41, 6), (44, 5), (48, 5), (54, 5), (60, 5), (67, 5), (71, 5), (83, 6), (88, 6), (90, 6), (94, 6)] }), (114, { base := [(21, 6), (29, 6), (34, 6), (36, 6), (38, 6)] }), (115, {}), (116, { base := [(7, 2), (11, 2), (20, 2), (26, 2)] }), (117, { tr := [73], keep := [(0, [0, 2, 3, 4, 7, 11, 12, 13, 14])], base := [(18, 7), (68, 17), (72, 13), (74, 17), (78, 13)] }), (118, { base := [(3, 1)] }), (119, { base := [(3, 1), (7, 1), (12, 1)] }), (120, {}), (121, {}), (122, { keep := [(0, [1, 3])], base := [(4, 1), (8, 1), (13, 1), (17, 1), (24, 1), (28, 1), (35, 1), (39, 1), (43, 1), (48, 1), (51, 1), (54, 1), (59, 1), (62, 1), (65, 1), (71, 1), (75, 1), (80, 1), (83, 1), (86, 1), (92, 1), (97, 1), (102, 1), (105, 1), (110, 1), (115, 1), (118, 1), (124, 1), (128, 1), (131, 1), (134, 1), (140, 1), (144, 1), (147, 1), (152, 1), (158, 1), (162, 1), (167, 1), (175, 1), (181, 1), (189, 1), (197, 1), (200, 1), (205, 1), (209, 1), (213, 1), (219, 1), (224, 1), (226, 1)], keepR := [(1, [1, 47]), (6, [2]), (8, [2]), (10, [2]), (12, [2]), (14, [2]), (15, [1, 173]), (20, [1, 3, 196]), (23, [2]), (24, [2])] }), (123, { base := [(9, 3), (16, 3), (23, 3), (27, 5)] }), (124, { keep := [(0, [0, 3])] }), (125, { keep := [(0, [0, 4, 5, 9])], base := [(12, 5), (15, 4), (34, 4), (38, 5), (43, 5), (47, 4), (54, 4), (58, 5), (64, 4), (68, 5), (73, 5), (81, 5), (94, 5)] }), (126, {}), (127, { base := [(5, 2), (7, 3), (11, 2), (13, 3), (18, 2), (20, 3), (25, 2), (27, 3), (32, 2), (35, 3)] }), (128, { base := [(3, 1), (7, 1), (12, 1)] }), (129, { base := [(7, 2), (11, 2), (20, 2), (26, 2)] }), (147, { base := [(3, 1), (7, 1)] }), (148, { pans := [12], base := [(7, 3)] }), (149, {}), (150, { hp := [0, 12, 13, 14, 35, 36, 37, 45, 46], pans := [44, 57, 62], base := [(16, 5), (21, 5), (25, 5), (39, 5), (47, 5), (51, 9), (53, 9), (55, 9), (58, 9)] }), (151, { hb := [4, 6, 7], hp := [0, 4, 6, 7, 14, 18, 25, 30, 62], pans := [29, 36, 41, 46, 58, 66, 68], base := [(11, 5), (20, 5)] }), (152, { hb := [4, 6, 7], hp := [0, 4, 6, 7, 9, 36], pure := [30], pans := [15, 20, 25, 32, 40, 42] }), (153, { pans := [22] }), (154, { hb := [5, 7, 8, 9], hp := [0, 5, 7, 8, 9, 12], pans := [16] }), (155, { keep := [(0, [2, 3, 5, 6])], base := [(12, 3), (17, 2), (25, 3)] }), (156, { tr := [10], keep := [(0, [0, 3, 4])] }), (158, { tr := [11], keep := [(0, [0, 3, 4])] }), (159, { base := [(8, 3), (13, 3)] }), (168, { base := [(6, 1), (10, 1), (16, 1), (22, 1), (29, 1), (33, 1)] }), (169, { tr := [37], pans := [16, 35, 41], keep := [(0, [3, 4, 6, 8, 9, 19, 20, 21])], base := [(36, 9), (44, 9)] }), (170, { hp := [2, 3, 4, 8], pure := [10, 14], pans := [16] }), (171, { pans := [13], base := [(8, 3), (14, 3)] }), (172, { hp := [2, 3, 4, 8], pure := [13, 14], pans := [16] }), (173, { hp := [2, 3, 4, 5, 13, 25], pure := [31], pans := [24, 33] }), (174, { base := [(7, 2), (11, 2), (20, 2), (26, 2)] }), (175, {}), (179, { base := [(7, 2), (11, 2), (20, 2), (26, 2)] }), (103, { keep := [(0, [1, 2, 15, 16, 17])] })]
noncomputable def E0 : Env := mkEnv Try.prog fs ts [] hints [25]
theorem allF : AllF Try.prog fs := ⟨Try.func3, Try.func4, Try.func5, Try.func29, Try.func30, Try.func31, Try.func33, Try.func34, Try.func35, Try.func84, Try.func86, Try.func87, Try.func139, Try.func140, Try.func157, Try.func15, Try.func16, Try.func17, Try.func18, Try.func19, Try.func20, Try.func21, Try.func22, Try.func23, Try.func24, Try.func25, Try.func26, Try.func27, Try.func28, Try.func32, Try.func69, Try.func72, Try.func73, Try.func74, Try.func75, Try.func76, Try.func78, Try.func79, Try.func80, Try.func81, Try.func82, Try.func83, Try.func85, Try.func131, Try.func132, Try.func133, Try.func134, Try.func135, Try.func136, Try.func137, Try.func138, Try.func141, Try.func160, Try.func161, Try.func162, Try.func163, Try.func164, Try.func165, Try.func166, Try.func167, Try.func180, Try.func181, Try.func182, Try.func10, Try.func11, Try.func12, Try.func13, Try.func14, Try.func48, Try.func50, Try.func51, Try.func56, Try.func57, Try.func58, Try.func60, Try.func61, Try.func62, Try.func63, Try.func64, Try.func65, Try.func66, Try.func67, Try.func68, Try.func70, Try.func71, Try.func96, Try.func97, Try.func100, Try.func101, Try.func102, Try.func108, Try.func109, Try.func110, Try.func111, Try.func112, Try.func113, Try.func114, Try.func115, Try.func116, Try.func117, Try.func118, Try.func119, Try.func120, Try.func121, Try.func122, Try.func123, Try.func124, Try.func125, Try.func126, Try.func127, Try.func128, Try.func129, Try.func147, Try.func148, Try.func149, Try.func150, Try.func151, Try.func152, Try.func153, Try.func154, Try.func155, Try.func156, Try.func158, Try.func159, Try.func168, Try.func169, Try.func170, Try.func171, Try.func172, Try.func173, Try.func174, Try.func175, Try.func179, Try.func103, trivial⟩
theorem allG : AllF Try.prog gs := ⟨Try.func77, Try.func130, Try.func176, Try.func177, Try.func178, Try.func59, Try.func107, trivial⟩
theorem allT : AllT Try.prog ts := ⟨tok1, tok3, tok4, tok5, tok9, tok20, tok21, tok22, tok23, tok25, tok29, tok31, tok33, tok35, tok37, tok43, tok46, tok55, tok66, tok68, tok78, tok95, tok110, tok111, tok113, tok139, tok140, tok148, tok149, trivial⟩
theorem okE0 : E0.Ok := mkEnv_ok (gs := []) allF trivial allT (by kernel_rfl) rfl rfl (by kernel_rfl) (by kernel_rfl)
end Go.Sh.T

namespace Go.Sh.T
open Go Go.Sh Go.Proofs
set_option maxRecDepth 100000

def cs0 (es : List (List AV)) (h : Heap) : St := { s := lkS [(0, .c (.v (.sl 12 es)))], h := h }
def cs1 (es : List (List AV)) (h : Heap) : St := { s := fun t => (ups (cs0 es h).s [(2, .c (.nil 12))] t).noPath, h := h }
def cs2 (es : List (List AV)) (h : Heap) : St := { s := ups (cs1 es h).s [(3, .c (.v (.sl 12 es)))], h := h, pb := fun _ => false }
def cs3 (es : List (List AV)) (h : Heap) (b : Bool) : St := { s := upd (cs2 es h).s 4 (.c (.v (.lit (.bool b)))), h := h, pb := fun _ => false }

noncomputable def clK (h : Heap) : Ex → St → R := fun e st => match e with
  | .exit _ => none
  | _ => finish E0 { own := true } Try.f77 h st

theorem clT (h : Heap) : evC E0 { own := true } 8 noCall 0 (match Try.f77.body with | some (.seq _ (.seq (.seq _ c) _)) => c | _ => .skip) 0 (cs3 [] h true) (fun e st' => match e with
      | .normal => evC E0 { own := true } 8 noCall 0 (match Try.f77.body with | some (.seq _ (.seq _ c)) => c | _ => .skip) 0 st' (clK h) (fun _ _ => none)
      | .exit i => clK h (.exit i) st'
      | .ret => clK h .ret st') (fun _ _ => none) = some (.own 12 [], h) := by kernel_rfl

theorem clone77 (es : List (List AV)) (hm : es.length ≤ maxApp) (h : Heap) : Ends Try.prog 77 [.sl 12 es] h (.own 12 es) h := by
  refine ⟨⟨Try.f77, Try.func77, by kernel_rfl, rfl⟩, fun d G w argv hr hh hw => ?_⟩
  refine calls_of_wp Try.func77 rfl ?_
  refine (wpIn_wide (n := 0)).1 ?_
  have hal : argv.size = 1 := by have := hr.length; simpa using this.symm
  have hat : AtSt d 8 G w (cs0 es h) { tmps := argv ++ Array.replicate (Try.f77.ntmps - argv.size) undef, defers := [] } w := by
    refine ⟨G, ⟨fun i => ?_, fun u t off hu => ?_, hh, hw⟩, by simp [hal], Fr.refl d G w⟩
    · rcases lkS_spec [(0, .c (.v (.sl 12 es)))] i with e | e
      · show RepSlot _ _ _ _ (lkS _ _) _
        rw [e]; trivial
      · refine argSlots_spec [.sl 12 es] 0 argv.toList hr (fun j x hj => ?_) _ e
        have hj' : j < argv.size := by simpa using (List.getElem?_eq_some_iff.1 hj).1
        rw [Nat.zero_add, Array.getD_eq_getD_getElem?, Array.getElem?_append_left hj', ← Array.getElem?_toList, hj]; rfl
    · exfalso
      have hu : lkS [(0, .c (.v (.sl 12 es)))] u = .path t off := hu
      rcases lkS_spec [(0, .c (.v (.sl 12 es)))] u with e | e
      · rw [e] at hu; cases hu
      · rw [hu] at e; simp at e
  have k0 : evC E0 {} 8 noCall 0 (match Try.f77.body with | some (.seq a _) => a | _ => .skip) 0 (cs0 es h) kE kP = some (.inl (.normal, cs1 es h)) := by kernel_rfl
  refine wpIn_seq (seg_ok okE0 k0 hat rfl fun a1 w1 hat1 hd1 => ?_)
  have k1 : stepD E0 {} 8 noCall (match Try.f77.body with | some (.seq _ (.seq (.seq (.region _ ops _) _) _)) => ops | _ => #[]) 0 (match Try.f77.body with | some (.seq _ (.seq (.seq (.region _ ops _) _) _)) => ops.getD 0 default | _ => default) (cs1 es h) = some (.inl (cs2 es h)) := by kernel_rfl
  refine wpIn_seq (wpIn_seq (region_eqNil okE0 (o0 := (match Try.f77.body with | some (.seq _ (.seq (.seq (.region _ ops _) _) _)) => ops.getD 0 default | _ => default)) rfl rfl rfl (st1 := cs2 es h) k1 rfl rfl rfl Try.underlying22 (by decide) rfl (es := es) (n := 12) (by kernel_rfl) hat1 hd1 fun b hb a2 w2 hat2 hd2 => ?_))
  have fin : ∀ e a' w', QK [] d G w 8 (clK h) (fun _ _ => none) (.own 12 es, h) e a' w' → bodyPost Try.prog Try.f77 (EndOk d G w (.own 12 es) h) e a' w' := by
    intro e a' w' hq
    obtain ⟨hd', hq⟩ := hq
    have key : ∀ {st' : St} {G' : Gh}, finish E0 { own := true } Try.f77 h st' = some (.own 12 es, h) → RepSt d G' w' st' a'.tmps → Fr d G w G' w' → a'.defers = [] ∧ ∃ v, (results Try.f77 a'.tmps).run Try.prog w' = .ok v w' ∧ EndOk d G w (.own 12 es) h (.returned v) w' := by
      intro st' G' h1 h2 h3
      obtain ⟨v, k1, ⟨G2, k2, k3, k4, k5⟩, k6⟩ := finish_ok okE0 hh h2 h3 h1
      exact ⟨hd', v, k1, G2, k2, k3, k4, k5⟩
    cases e with
    | normal => obtain ⟨st', G', h1, h2, h3, h4⟩ := hq; exact key h1 h2 h4
    | ret => obtain ⟨st', G', h1, h2, h3, h4⟩ := hq; exact key h1 h2 h4
    | exit i => obtain ⟨st', G', h1, _⟩ := hq; cases h1
    | panic ch => obtain ⟨x, v, G', h', _, h1, _⟩ := hq; cases h1
    | goto l => exact hq.elim
    | outgrown => exact hq.elim
  have hk : evC E0 { own := true } 8 noCall 0 (match Try.f77.body with | some (.seq _ (.seq (.seq _ c) _)) => c | _ => .skip) 0 (cs3 es h b) (fun e st' => match e with
      | .normal => evC E0 { own := true } 8 noCall 0 (match Try.f77.body with | some (.seq _ (.seq _ c)) => c | _ => .skip) 0 st' (clK h) (fun _ _ => none)
      | .exit i => clK h (.exit i) st'
      | .ret => clK h .ret st') (fun _ _ => none) = some (.own 12 es, h) := by
    cases b with
    | true =>
      have he := hb rfl
      rw [he]
      exact clT h
    | false =>
      have e : evC E0 { own := true } 8 noCall 0 (match Try.f77.body with | some (.seq _ (.seq (.seq _ c) _)) => c | _ => .skip) 0 (cs3 es h false) (fun e st' => match e with
        | .normal => evC E0 { own := true } 8 noCall 0 (match Try.f77.body with | some (.seq _ (.seq _ c)) => c | _ => .skip) 0 st' (clK h) (fun _ _ => none)
        | .exit i => clK h (.exit i) st'
        | .ret => clK h .ret st') (fun _ _ => none) = cond (Nat.ble (([] : List (List AV)).length + es.length) maxApp) (some (.own 12 ([] ++ es), h)) none := by kernel_rfl
      rw [e]
      have : Nat.ble (([] : List (List AV)).length + es.length) maxApp = true := by rw [Nat.ble_eq]; simpa using hm
      rw [this, cond_true, List.nil_append]
  refine Code.wpIn_mono (fun e a' w' hq => ?_) (evC_ok (ro := none) (nn := 0) okE0 (noCall_ok _) _ 0 (cs3 es h b) _ a2 w2 hk hat2 hd2)
  obtain ⟨hd', hq⟩ := hq
  cases e with
  | normal =>
    obtain ⟨st', G', h1, h2, h3, h4⟩ := hq
    exact Code.wpIn_mono (fun e a'' w'' hq => fin e a'' w'' hq) (evC_ok (ro := none) (nn := 0) okE0 (noCall_ok _) _ 0 st' _ a' w' h1 ⟨G', h2, h3, h4⟩ hd')
  | ret => exact fin .ret a' w' ⟨hd', hq⟩
  | exit i => exact fin (.exit i) a' w' ⟨hd', hq⟩
  | panic ch => exact fin (.panic ch) a' w' ⟨hd', hq⟩
  | goto l => exact hq.elim
  | outgrown => exact hq.elim
end Go.Sh.T

/- The walk over a tree's nodes: what the iterator promises. -/
namespace Go.Sh.T
open Go Go.Sh Go.Proofs
set_option maxRecDepth 100000
set_option linter.unusedVariables false
set_option linter.unusedSimpArgs false

namespace W33
def yl (l : Nat) : AV := .lit (.func (.yield l) #[] #[])

mutual
inductive Tr : List AV → List AV → Prop
  | mk {q0 q1 q2 q3 : AV} {kids : List (List AV)} {xs : List AV} (h : TrL kids xs) (hl : kids.length ≤ 9223372036854775807) : Tr [q0, q1, q2, q3, .sl 5 kids] (.agg [q0, q1, q2, q3, .sl 5 kids] :: xs)
inductive TrL : List (List AV) → List AV → Prop
  | nil : TrL [] []
  | cons {e : List AV} {r : List (List AV)} {xs ys : List AV} (h : Tr e xs) (t : TrL r ys) : TrL (e :: r) (xs ++ ys)
end

theorem Tr.len {e xs : List AV} (h : Tr e xs) : e.length = 5 := by cases h; rfl

noncomputable def body : Code := Try.f177.body.getD .skip
def pL : Code → Code
  | .seq a _ => a
  | .block _ c => c
  | .loop c => c
  | .cond _ a _ => a
  | c => c
def pR : Code → Code
  | .seq _ b => b
  | .cond _ _ b => b
  | c => c
def opsOf : Code → Array Oper
  | .region _ ops _ => ops
  | _ => #[]
noncomputable def R0 := pL body
noncomputable def R1 := pL (pL (pR body))
noncomputable def R2 := pL (pL (pR (pL (pR body))))
noncomputable def tl := pR (pR body)
noncomputable def R3 := pL (pL tl)
noncomputable def lp := pL (pL (pR (pL tl)))
noncomputable def R4 := pL lp
noncomputable def b1 := pL (pL (pR (pR lp)))
noncomputable def R5 := pL b1
noncomputable def R6 := pL (pR b1)
noncomputable def R7 := pL (pL (pR (pR b1)))
noncomputable def R8 := pR (pR (pR lp))
noncomputable def R9 := pL (pR tl)
noncomputable def o1 (i : Nat) : Oper := (opsOf R1).getD i default
noncomputable def o6 (i : Nat) : Oper := (opsOf R6).getD i default

abbrev S (l : List (Nat × Slot)) (h : Heap) : St := { s := lkS l, h := h }
abbrev HB : FHint := { base := [(11, 2)] }
noncomputable abbrev ev0 (L : List Nat) (c : Code) (st : St) : Option (List (Nat × Slot) × Heap) := evC E0 HB Try.f177.ntmps noCall 0 c 0 st (kL L) kN
abbrev lc (l : List AV) : Slot := .loc (l.map .v)
abbrev iv (i : Int) : Slot := .c (.v (.lit (.int .i64 i)))
abbrev bv (b : Bool) : Slot := .c (.v (.lit (.bool b)))

section
variable (l : Nat) (q0 q1 q2 q3 : AV) (kids : List (List AV)) (h : Heap)
theorem e0 : ev0 [1, 2] R0 (S [(0, .c (.v (.agg [q0, q1, q2, q3, .sl 5 kids]))), (1, .c (.v (yl l)))] h) = some ([(1, .c (.v (yl l))), (2, lc [q0, q1, q2, q3, .sl 5 kids])], h) := by kernel_rfl
theorem e10 : stepK E0 {} Try.f177.ntmps noCall (opsOf R1) 0 (o1 0) (S [(1, .c (.v (yl l))), (2, lc [q0, q1, q2, q3, .sl 5 kids])] h) (kLs [1, 2, 7]) kN = some ([(1, .c (.v (yl l))), (2, lc [q0, q1, q2, q3, .sl 5 kids]), (7, .c (.v (yl l)))], h) := by kernel_rfl
theorem e11 : stepK E0 {} Try.f177.ntmps noCall (opsOf R1) 1 (o1 1) (S [(1, .c (.v (yl l))), (2, lc [q0, q1, q2, q3, .sl 5 kids]), (7, .c (.v (yl l)))] h) (kLs [1, 2, 7, 8]) kN = some ([(1, .c (.v (yl l))), (2, lc [q0, q1, q2, q3, .sl 5 kids]), (7, .c (.v (yl l))), (8, .c (.v (.agg [q0, q1, q2, q3, .sl 5 kids])))], h) := by kernel_rfl
theorem e13 (t : Bool) : stepK E0 {} Try.f177.ntmps noCall (opsOf R1) 3 (o1 3) { s := upd (lkS [(1, .c (.v (yl l))), (2, lc [q0, q1, q2, q3, .sl 5 kids]), (7, .c (.v (yl l))), (8, .c (.v (.agg [q0, q1, q2, q3, .sl 5 kids])))]) 9 (bv t), h := h } (kLs [1, 2, 10]) kN = some ([(1, .c (.v (yl l))), (2, lc [q0, q1, q2, q3, .sl 5 kids]), (10, bv (!t))], h) := by cases t <;> kernel_rfl
theorem e2 (st : Nat → Slot) : ev0 [4] R2 { s := st, h := h } = some ([(4, bv false)], h) := by kernel_rfl
theorem e3 (t : Bool) : ev0 [1, 12, 13, 14] R3 (S [(1, .c (.v (yl l))), (2, lc [q0, q1, q2, q3, .sl 5 kids]), (10, bv t)] h) = some ([(1, .c (.v (yl l))), (12, .c (.v (.sl 5 kids))), (13, iv kids.length), (14, iv 0)], h) := by kernel_rfl
theorem e4 (n i : Int) : ev0 [1, 12, 13, 14, 15] R4 (S [(1, .c (.v (yl l))), (12, .c (.v (.sl 5 kids))), (13, iv n), (14, iv i)] h) = some ([(1, .c (.v (yl l))), (12, .c (.v (.sl 5 kids))), (13, iv n), (14, iv i), (15, bv (decide (i < n)))], h) := by kernel_rfl
theorem e5 (n i : Int) (t : Bool) : ev0 [1, 12, 13, 14, 6] R5 (S [(1, .c (.v (yl l))), (12, .c (.v (.sl 5 kids))), (13, iv n), (14, iv i), (15, bv t)] h) = (indexA 5 (.sl 5 kids) (.lit (.int .i64 i))).bind fun e => (partA true 5 0 e).bind fun v => explodeK ti33 v fun cs => some ([(1, .c (.v (yl l))), (12, .c (.v (.sl 5 kids))), (13, iv n), (14, iv i), (6, .loc cs)], h) := by kernel_rfl
theorem e60 (n i : Int) (zs : List (List AV)) : stepK E0 {} Try.f177.ntmps noCall (opsOf R6) 0 (o6 0) (S [(1, .c (.v (yl l))), (12, .c (.v (.sl 5 zs))), (13, iv n), (14, iv i), (6, lc [q0, q1, q2, q3, .sl 5 kids])] h) (kLs [1, 12, 13, 14, 18]) kN = some ([(1, .c (.v (yl l))), (12, .c (.v (.sl 5 zs))), (13, iv n), (14, iv i), (18, .c (.v (.agg [q0, q1, q2, q3, .sl 5 kids])))], h) := by kernel_rfl
theorem e61 (n i : Int) (x : AV) : stepK E0 {} Try.f177.ntmps noCall (opsOf R6) 1 (o6 1) (S [(1, .c (.v (yl l))), (12, .c (.v (.sl 5 kids))), (13, iv n), (14, iv i), (18, .c (.v x))] h) (kLs [1, 12, 13, 14, 18, 19]) kN = some ([(1, .c (.v (yl l))), (12, .c (.v (.sl 5 kids))), (13, iv n), (14, iv i), (18, .c (.v x)), (19, .c (.v (yl l)))], h) := by kernel_rfl
theorem e63 (n i : Int) (x : AV) (t : Bool) : stepK E0 {} Try.f177.ntmps noCall (opsOf R6) 3 (o6 3) { s := upd (lkS [(1, .c (.v (yl l))), (12, .c (.v (.sl 5 kids))), (13, iv n), (14, iv i), (18, .c (.v x)), (19, .c (.v (yl l)))]) 20 (bv t), h := h } (kLs [1, 12, 13, 14, 21]) kN = some ([(1, .c (.v (yl l))), (12, .c (.v (.sl 5 kids))), (13, iv n), (14, iv i), (21, bv (!t))], h) := by cases t <;> kernel_rfl
theorem e7 (st : Nat → Slot) : ev0 [4] R7 { s := st, h := h } = some ([(4, bv false)], h) := by kernel_rfl
theorem e8 (n i : Int) (t : Bool) : ev0 [1, 12, 13, 14] R8 (S [(1, .c (.v (yl l))), (12, .c (.v (.sl 5 kids))), (13, iv n), (14, iv i), (21, bv t)] h) = some ([(1, .c (.v (yl l))), (12, .c (.v (.sl 5 kids))), (13, iv n), (14, iv (IntKind.i64.wrap (i + 1)))], h) := by kernel_rfl
theorem e9 (st : Nat → Slot) : ev0 [4] R9 { s := st, h := h } = some ([(4, bv true)], h) := by kernel_rfl
theorem fin4 (t : Bool) : finish E0 {} Try.f177 h (S [(4, bv t)] h) = some (.ret (.lit (.bool t)), h) := by kernel_rfl
end

/-- What a walk promises. -/
def WalkC (cs xs : List AV) : Prop := ∀ (d : Nat) (G : Gh) (w : World) (l : Nat) (rc : Loop) (rd : AV → Heap → Option (Option Code × Heap)) (xv : Value) (h : Heap) (j : Option Code) (h' : Heap), Ready G w l rc → RoundC Try.prog l d G w rc rd → RepA G.S w G.μ (.agg cs) xv → RepHeap G w h → Within G w →
  foldR rd xs h = some (j, h') → Calls Try.prog 177 #[xv, .func (.yield l) #[] #[]] w (PostY d G w l rc j h')

theorem callable : Callable Try.prog 177 := ⟨Try.f177, Try.func177, by kernel_rfl, rfl⟩

theorem slotA {d nt : Nat} {G0 G : Gh} {w0 w : World} {st : St} {a : Act} (r : RepSt d G w st a.tmps) {i : Nat} {x : AV} (h : st.s i = .c (.v x)) : RepA G.S w G.μ x (a.tmps.getD i undef) := by
  have := r.slot i
  rw [h] at this; exact this

theorem yl_val {S : Nat → Nat} {w : World} {μ : List Nat} {l : Nat} {v : Value} (h : RepA S w μ (yl l) v) : v = .func (.yield l) #[] #[] := h.litE

/-- The end: the result is told. -/
theorem done_ok {d l : Nat} {G0 : Gh} {w0 : World} {rc : Loop} {j : Option Code} {h' : Heap} {a : Act} {w : World} {t : Bool} (ht : t = j.isNone) (hat : AtSt d Try.f177.ntmps G0 (endW w0 l rc j) (S [(4, bv t)] h') a w) (hd : a.defers = []) : bodyPost Try.prog Try.f177 (PostY d G0 w0 l rc j h') .ret a w := by
  obtain ⟨G, r, hnt, hf⟩ := hat
  obtain ⟨v, k1, ⟨G', k2, k3, k4, k5⟩, _⟩ := finish_ok (G0 := G) (w0 := w) okE0 r.heap r (Fr.refl _ _ _) (fin4 h' t)
  have hv : v = .bool t := RepA.litE k5
  refine ⟨hd, v, k1, ?_, G', hf.trans k2, k3, k4⟩
  rw [hv, ht]

theorem loop_ok {n : Nat} (rec : ∀ cs xs, xs.length < n → Tr cs xs → WalkC cs xs) {d l : Nat} {G0 : Gh} {w0 : World} {rc : Loop} {rd : AV → Heap → Option (Option Code × Heap)} {kids : List (List AV)} {j : Option Code} {h' : Heap} (hk : kids.length ≤ 9223372036854775807)
    (rdy : Ready G0 w0 l rc) (rnd : RoundC Try.prog l d G0 w0 rc rd) {Q : Exit → Act → World → Prop}
    (hex : j = none → ∀ a w, AtSt d Try.f177.ntmps G0 (endW w0 l rc j) (S [(1, .c (.v (yl l)))] h') a w → a.defers = [] → Q (.exit 0) a w)
    (hret : j.isNone = false → ∀ a w, AtSt d Try.f177.ntmps G0 (endW w0 l rc j) (S [(4, bv false)] h') a w → a.defers = [] → Q .ret a w) :
    ∀ (m i : Nat) (ys : List AV) (h : Heap) (a : Act) (w : World), TrL (kids.drop i) ys → ys.length < n → i ≤ kids.length → kids.length < m + i → foldR rd ys h = some (j, h') → AtSt d Try.f177.ntmps G0 w0 (S [(1, .c (.v (yl l))), (12, .c (.v (.sl 5 kids))), (13, iv kids.length), (14, iv i)] h) a w → a.defers = [] →
      Code.roundsIn (FF none) 0 Try.prog lp Q m a w
  | 0, i, ys, h, a, w, _, _, h1, h2, _, _, _ => by omega
  | m + 1, i, ys, h, a, w, tr, hys, h1, h2, hf, hat, hd => by
    rw [roundsIn_succ]
    refine wpIn_seq (seg_keep okE0 (noCall_ok _) (H := HB) (n := 0) (bi := 0) [1, 12, 13, 14, 15] (e4 l kids h kids.length i) hat hd fun a1 w1 hat1 hd1 => ?_)
    obtain ⟨G1, r1, n1, f1⟩ := hat1
    have hb := (slotA (nt := 0) (G0 := G0) (w0 := w0) r1 (i := 15) rfl).litE
    by_cases hi : i < kids.length
    · rw [show decide ((i : Int) < (kids.length : Int)) = true from by simpa using hi] at hb
      refine wpIn_seq (wpIn_cond_true hb (wpIn_skip ?_))
      refine wpIn_seq (wpIn_block ?_)
      have hdr : kids.drop i = kids[i] :: kids.drop (i + 1) := List.drop_eq_getElem_cons hi
      rw [hdr] at tr
      obtain ⟨xs, ys', hxs, htl, rfl⟩ : ∃ xs ys', Tr kids[i] xs ∧ TrL (kids.drop (i + 1)) ys' ∧ ys = xs ++ ys' := by
        generalize kids[i] = e0 at tr; generalize kids.drop (i + 1) = r0 at tr
        cases tr with
        | cons h t => exact ⟨_, _, h, t, rfl⟩
      have hidx : indexA 5 (.sl 5 kids) (.lit (.int .i64 (i : Int))) = some kids[i] := by simp [indexA, slOf, intOf, hi]
      generalize hce : kids[i] = ce at hxs hidx
      have hxs0 := hxs
      obtain ⟨q0, q1, q2, q3, ks, hce2⟩ : ∃ q0 q1 q2 q3 ks, ce = [q0, q1, q2, q3, .sl 5 ks] := by cases hxs; exact ⟨_, _, _, _, _, rfl⟩
      subst hce2
      have k5 := e5 l kids h kids.length i (decide ((i : Int) < (kids.length : Int)))
      rw [hidx] at k5
      refine wpIn_seq (seg_keep okE0 (noCall_ok _) (H := HB) (n := 0) (bi := 0) [1, 12, 13, 14, 6] (h' := h) (l := [(1, .c (.v (yl l))), (12, .c (.v (.sl 5 kids))), (13, iv kids.length), (14, iv i), (6, lc [q0, q1, q2, q3, .sl 5 ks])]) k5 ⟨G1, r1, n1, f1⟩ hd1 fun a2 w2 hat2 hd2 => ?_)
      refine wpIn_seq (wpIn_region ?_)
      change wpOpsIn _ _ _ (opsOf R6) _ [0, 1, 2, 3] _ _
      rw [wpOpsIn_cons]
      refine step_keep okE0 (noCall_ok _) (H := {}) rfl [1, 12, 13, 14, 18] (e60 l q0 q1 q2 q3 ks h kids.length i kids) hat2 hd2 fun a3 w3 hat3 hd3 => ?_
      rw [wpOpsIn_cons]
      refine step_keep okE0 (noCall_ok _) (H := {}) rfl [1, 12, 13, 14, 18, 19] (e61 l kids h kids.length i (.agg [q0, q1, q2, q3, .sl 5 ks])) hat3 hd3 fun a4 w4 hat4 hd4 => ?_
      rw [wpOpsIn_cons]
      obtain ⟨G4, r4, n4, f4⟩ := hat4
      have rdy4 := rdy.later f4
      have v18 := slotA (nt := 0) (G0 := G0) (w0 := w0) r4 (i := 18) rfl
      have v19 := yl_val (slotA (nt := 0) (G0 := G0) (w0 := w0) r4 (i := 19) rfl)
      have hlen : xs.length < n := by rw [List.length_append] at hys; omega
      have step : ∀ (jj : Option Code) (hh : Heap), foldR rd xs h = some (jj, hh) → ∀ (K : Act → World → Prop) (Q : Exit → Act → World → Prop), (∀ a' G' w', RepSt d G' w' { s := upd (lkS [(1, .c (.v (yl l))), (12, .c (.v (.sl 5 kids))), (13, iv kids.length), (14, iv i), (18, .c (.v (.agg [q0, q1, q2, q3, .sl 5 ks]))), (19, .c (.v (yl l)))]) 20 (bv jj.isNone), h := hh } a'.tmps → a'.tmps.size = Try.f177.ntmps → a'.defers = a4.defers → Fr d G4 (endW w4 l rc jj) G' w' → K a' w') →
          wpOpIn (FF none) 0 Try.prog (opsOf R6) Q 2 K a4 w4 := by
        intro jj hh hfo K Q hK
        refine step_hand (o := o6 2) (nt := Try.f177.ntmps) (st := S _ h) rfl rfl rfl (fun c hc => by cases hc) (by decide) rfl r4 n4 rdy4 (.inl ⟨177, #[a4.tmps.getD 18 undef, .func (.yield l) #[] #[]], ?_, ?_⟩) hK
        · have := run_call (a := a4) (w := w4) Try.prog (o := o6 2) rfl rfl (f := 177) (fv := #[]) (cv := #[]) rfl callable
          rw [this]
          have e19 : a4.eval (.tmp 19) = .func (.yield l) #[] #[] := v19
          simp only [Array.map, Array.append_empty, Array.empty_append]
          congr 2
          show (#[.tmp 18, .tmp 19] : Array Operand).map a4.eval = _
          simp only [List.map_toArray, List.map_cons, List.map_nil, e19]
          rfl
        · exact rec _ xs hlen hxs0 (d + 1) G4 w4 l rc rd _ h jj hh rdy4 (rnd.later (Nat.le_succ d) f4 ) v18 r4.heap r4.within hfo
      rcases foldR_append hf with ⟨h3, k1, k2⟩ | ⟨c, k1, k2⟩
      · refine step none h3 k1 _ _ fun a5 G5 w5 r5 n5 d5 f5 => ?_
        rw [endW_none rdy4] at f5
        rw [wpOpsIn_cons]
        refine step_keep okE0 (noCall_ok _) (H := {}) rfl [1, 12, 13, 14, 21] (e63 l kids h3 kids.length i (.agg [q0, q1, q2, q3, .sl 5 ks]) true) ⟨G5, r5, n5, f4.trans f5⟩ (d5.trans hd4) fun a6 w6 hat6 hd6 => ?_
        obtain ⟨G6, r6, n6, f6⟩ := hat6
        refine wpIn_cond_false (slotA (nt := 0) (G0 := G0) (w0 := w0) r6 (i := 21) rfl).litE (wpIn_skip ?_)
        refine seg_keep okE0 (noCall_ok _) (H := HB) (n := 0) (bi := 0) [1, 12, 13, 14] (e8 l kids h3 kids.length i false) ⟨G6, r6, n6, f6⟩ hd6 fun a7 w7 hat7 hd7 => ?_
        rw [IntWalk.i64_in ((i : Int) + 1) (by omega)] at hat7
        exact loop_ok rec hk rdy rnd hex hret m (i + 1) ys' h3 a7 w7 htl (by rw [List.length_append] at hys; omega) hi (by omega) k2 hat7 hd7
      · have k2 : j = some c := k2
        subst k2
        refine step (some c) h' k1 _ _ fun a5 G5 w5 r5 n5 d5 f5 => ?_
        rw [wpOpsIn_cons]
        have f45 : Fr d G0 (endW w0 l rc (some c)) G5 w5 := (f4.put rdy.there rdy.own).trans f5
        refine step_keep okE0 (noCall_ok _) (H := {}) rfl [1, 12, 13, 14, 21] (e63 l kids h' kids.length i (.agg [q0, q1, q2, q3, .sl 5 ks]) false) ⟨G5, r5, n5, f45⟩ (d5.trans hd4) fun a6 w6 hat6 hd6 => ?_
        obtain ⟨G6, r6, n6, f6⟩ := hat6
        refine wpIn_cond_true (slotA (nt := 0) (G0 := G0) (w0 := w0) r6 (i := 21) rfl).litE ?_
        refine wpIn_seq (seg_keep okE0 (noCall_ok _) (H := HB) (n := 0) (bi := 0) [4] (e7 h' _) ⟨G6, r6, n6, f6⟩ hd6 fun a7 w7 hat7 hd7 => ?_)
        exact wpIn_ret (hret rfl a7 w7 hat7 hd7)
    · rw [show decide ((i : Int) < (kids.length : Int)) = false from by simpa using hi] at hb
      refine wpIn_seq (wpIn_cond_false hb (wpIn_exit ?_))
      have hdr : kids.drop i = [] := List.drop_eq_nil_of_le (by omega)
      rw [hdr] at tr
      cases tr
      have e := Prod.mk.inj (Option.some.inj hf)
      obtain ⟨ej, eh⟩ := e
      subst ej; subst eh
      refine hex rfl a1 w1 ?_ hd1
      rw [endW_none rdy]
      obtain ⟨_, rk, nk, fk⟩ := AtSt.keep (some [1]) ⟨G1, r1, n1, f1⟩
      exact ⟨_, rk, nk, fk⟩

theorem walk_ok : ∀ (n : Nat) (cs xs : List AV), xs.length < n → Tr cs xs → WalkC cs xs
  | 0, cs, xs, h, _ => by omega
  | n + 1, cs, xs, hlt, tr => by
    intro d G0 w0 l rc rd xv h j h' rdy rnd hx hh hw hf
    cases tr with
    | mk hk hl =>
    rename_i q0 q1 q2 q3 kids xs
    refine calls_of_wp Try.func177 rfl ?_
    refine (wpIn_wide (n := 0)).1 ?_
    have hat : AtSt d Try.f177.ntmps G0 w0 (S [(0, .c (.v (.agg [q0, q1, q2, q3, .sl 5 kids]))), (1, .c (.v (yl l)))] h) { tmps := #[xv, .func (.yield l) #[] #[]] ++ Array.replicate (Try.f177.ntmps - 2) undef, defers := [] } w0 := by
      refine ⟨G0, ⟨fun i => rep_two rfl rfl hx (.lit rfl) _ i, fun u t off hu => ?_, hh, hw⟩, by rw [Array.size_append, Array.size_replicate]; rfl, Fr.refl _ _ _⟩
      exfalso
      rcases u with _ | _ | u
      · cases hu
      · cases hu
      · cases hu
    refine wpIn_seq (seg_keep okE0 (noCall_ok _) (H := HB) (n := 0) (bi := 0) [1, 2] (e0 l q0 q1 q2 q3 kids h) hat rfl fun a1 w1 hat1 hd1 => ?_)
    refine wpIn_seq (wpIn_seq (wpIn_region ?_))
    change wpOpsIn _ _ _ (opsOf R1) _ [0, 1, 2, 3] _ _
    rw [wpOpsIn_cons]
    refine step_keep okE0 (noCall_ok _) (H := {}) rfl [1, 2, 7] (e10 l q0 q1 q2 q3 kids h) hat1 hd1 fun a3 w3 hat3 hd3 => ?_
    rw [wpOpsIn_cons]
    refine step_keep okE0 (noCall_ok _) (H := {}) rfl [1, 2, 7, 8] (e11 l q0 q1 q2 q3 kids h) hat3 hd3 fun a4 w4 hat4 hd4 => ?_
    rw [wpOpsIn_cons]
    obtain ⟨G4, r4, n4, f4⟩ := hat4
    have rdy4 := rdy.later f4
    have v8 := slotA (nt := 0) (G0 := G0) (w0 := w0) r4 (i := 8) rfl
    have v7 := yl_val (slotA (nt := 0) (G0 := G0) (w0 := w0) r4 (i := 7) rfl)
    have step : ∀ (jj : Option Code) (hh : Heap), rd (.agg [q0, q1, q2, q3, .sl 5 kids]) h = some (jj, hh) → ∀ (K : Act → World → Prop) (Q : Exit → Act → World → Prop), (∀ a' G' w', RepSt d G' w' { s := upd (lkS [(1, .c (.v (yl l))), (2, lc [q0, q1, q2, q3, .sl 5 kids]), (7, .c (.v (yl l))), (8, .c (.v (.agg [q0, q1, q2, q3, .sl 5 kids])))]) 9 (bv jj.isNone), h := hh } a'.tmps → a'.tmps.size = Try.f177.ntmps → a'.defers = a4.defers → Fr d G4 (endW w4 l rc jj) G' w' → K a' w') →
        wpOpIn (FF none) 0 Try.prog (opsOf R1) Q 2 K a4 w4 := by
      intro jj hh hfo K Q hK
      obtain ⟨fn, tmps, assign, body, y1, y2⟩ := rnd 0 (d + 1) G4 w4 (.agg [q0, q1, q2, q3, .sl 5 kids]) (a4.tmps.getD 8 undef) h jj hh (Nat.le_succ d) f4 v8 r4.heap r4.within hfo
      refine step_hand (o := o1 2) (nt := Try.f177.ntmps) (st := S _ h) rfl rfl rfl (fun c hc => by cases hc) (by decide) rfl r4 n4 rdy4 (.inr ⟨l, fn, tmps, assign, body, ?_, y2⟩) hK
      exact run_yieldOp (a := a4) (w := w4) Try.prog (o := o1 2) rfl rfl v7 (by
        show (Instr.yield l ((#[.tmp 8] : Array Operand).map a4.eval)).run Try.prog w4 = _
        simp only [List.map_toArray, List.map_cons, List.map_nil]
        exact y1)
    rcases foldR_cons hf with ⟨h3, k1, k2⟩ | ⟨c, k1, k2⟩
    · refine step none h3 k1 _ _ fun a5 G5 w5 r5 n5 d5 f5 => ?_
      rw [endW_none rdy4] at f5
      rw [wpOpsIn_cons]
      refine step_keep okE0 (noCall_ok _) (H := {}) rfl [1, 2, 10] (e13 l q0 q1 q2 q3 kids h3 true) ⟨G5, r5, n5, f4.trans f5⟩ (d5.trans hd4) fun a6 w6 hat6 hd6 => ?_
      obtain ⟨G6, r6, n6, f6⟩ := hat6
      refine wpIn_cond_false (slotA (nt := 0) (G0 := G0) (w0 := w0) r6 (i := 10) rfl).litE (wpIn_skip ?_)
      refine wpIn_seq (wpIn_seq (seg_keep okE0 (noCall_ok _) (H := HB) (n := 0) (bi := 0) [1, 12, 13, 14] (e3 l q0 q1 q2 q3 kids h3 false) ⟨G6, r6, n6, f6⟩ hd6 fun a7 w7 hat7 hd7 => ?_))
      refine wpIn_block (wpIn_loop_rounds (kids.length + 1) ?_)
      refine loop_ok (walk_ok n) hl rdy rnd ?_ ?_ (kids.length + 1) 0 xs h3 a7 w7 (by rw [List.drop_zero]; exact hk) (by simp only [List.length_cons] at hlt; omega) (Nat.zero_le _) (by omega) k2 hat7 hd7
      · intro hj a w hat hd
        show Code.wpIn (FF none) 0 Try.prog (pR tl) (bodyPost Try.prog Try.f177 (PostY d G0 w0 l rc j h')) a w
        refine wpIn_seq (seg_keep okE0 (noCall_ok _) (H := HB) (n := 0) (bi := 0) [4] (e9 h' _) hat hd fun a8 w8 hat8 hd8 => ?_)
        exact wpIn_ret (done_ok (by rw [hj]; rfl) hat8 hd8)
      · intro hj a w hat hd
        exact done_ok hj.symm hat hd
    · have k2 : j = some c := k2
      subst k2
      refine step (some c) h' k1 _ _ fun a5 G5 w5 r5 n5 d5 f5 => ?_
      rw [wpOpsIn_cons]
      have f45 : Fr d G0 (endW w0 l rc (some c)) G5 w5 := (f4.put rdy.there rdy.own).trans f5
      refine step_keep okE0 (noCall_ok _) (H := {}) rfl [1, 2, 10] (e13 l q0 q1 q2 q3 kids h' false) ⟨G5, r5, n5, f45⟩ (d5.trans hd4) fun a6 w6 hat6 hd6 => ?_
      obtain ⟨G6, r6, n6, f6⟩ := hat6
      refine wpIn_cond_true (slotA (nt := 0) (G0 := G0) (w0 := w0) r6 (i := 10) rfl).litE ?_
      refine wpIn_seq (seg_keep okE0 (noCall_ok _) (H := HB) (n := 0) (bi := 0) [4] (e2 h' _) ⟨G6, r6, n6, f6⟩ hd6 fun a7 w7 hat7 hd7 => ?_)
      exact wpIn_ret (done_ok rfl hat7 hd7)

/- the iterator: a closure that goes on to the walk -/
noncomputable def it : Code := Try.f176.body.getD .skip
noncomputable def oi (i : Nat) : Oper := (opsOf it).getD i default
abbrev HI : FHint := { hp := [1] }
theorem i0 (l i : Nat) (h : Heap) : stepK E0 HI Try.f176.ntmps noCall (opsOf it) 0 (oi 0) (S [(0, .c (.v (yl l))), (1, .c (.v (.hp i 0)))] h) (kLs [0, 3]) kN = (hpart true 5 0 i h).bind fun v => some ([(0, .c (.v (yl l))), (3, .c (.v v))], h) := by kernel_rfl
theorem i1 (l : Nat) (x : AV) (h : Heap) : stepK E0 HI Try.f176.ntmps noCall (opsOf it) 1 (oi 1) (S [(0, .c (.v (yl l))), (3, .c (.v x))] h) (kLs [3, 4]) kN = some ([(3, .c (.v x)), (4, .c (.v (yl l)))], h) := by kernel_rfl
theorem ifin (st : Nat → Slot) (h : Heap) : finish E0 {} Try.f176 h { s := st, h := h } = some (.ret (.tup []), h) := by kernel_rfl

theorem iter_ok {cs xs : List AV} {h : Heap} {i : Nat} (tr : Tr cs xs) (hi : (h[i]?).map (·.map Cell.get) = some cs) : IterC Try.prog 176 [.hp i 0] xs h := by
  refine ⟨⟨Try.f176, Try.func176, by kernel_rfl, rfl⟩, fun d G w l rc rd cv j h' rdy rnd hcv hh hw hf => ?_⟩
  obtain ⟨l0⟩ := cv
  have hcv : RepL G.S w G.μ [.hp i 0] l0 := hcv
  obtain ⟨x1, rfl⟩ : ∃ x, l0 = [x] := by cases hcv with | cons h t => cases t; exact ⟨_, rfl⟩
  have hx : RepA G.S w G.μ (.hp i 0) x1 := by cases hcv with | cons h _ => exact h
  refine calls_of_wp Try.func176 rfl ?_
  refine (wpIn_wide (n := 0)).1 ?_
  have hat : AtSt d Try.f176.ntmps G w (S [(0, .c (.v (yl l))), (1, .c (.v (.hp i 0)))] h) { tmps := #[.func (.yield l) #[] #[], x1] ++ Array.replicate (Try.f176.ntmps - 2) undef, defers := [] } w := by
    refine ⟨G, ⟨fun i => rep_two rfl rfl (.lit rfl) hx _ i, fun u t off hu => ?_, hh, hw⟩, by rw [Array.size_append, Array.size_replicate]; rfl, Fr.refl _ _ _⟩
    exfalso
    rcases u with _ | _ | u
    · cases hu
    · cases hu
    · cases hu
  refine wpIn_region ?_
  change wpOpsIn _ _ _ (opsOf it) _ [0, 1, 2] _ _
  rw [wpOpsIn_cons]
  have hp : hpart true 5 0 i h = some (.agg cs) := by
    obtain ⟨c0, h1, h2⟩ := Option.map_eq_some_iff.1 hi
    unfold hpart
    rw [h1, Option.bind_some, h2]
    exact partAll tr.len
  have k0 := i0 l i h
  rw [hp] at k0
  refine step_keep okE0 (noCall_ok _) (H := HI) rfl [0, 3] (l := [(0, .c (.v (yl l))), (3, .c (.v (.agg cs)))]) (h' := h) k0 hat rfl fun a3 w3 hat3 hd3 => ?_
  rw [wpOpsIn_cons]
  refine step_keep okE0 (noCall_ok _) (H := HI) rfl [3, 4] (i1 l (.agg cs) h) hat3 hd3 fun a4 w4 hat4 hd4 => ?_
  rw [wpOpsIn_cons]
  obtain ⟨G4, r4, n4, f4⟩ := hat4
  have rdy4 := rdy.later f4
  have v3 := slotA (nt := 0) (G0 := G) (w0 := w) r4 (i := 3) rfl
  have v4 := yl_val (slotA (nt := 0) (G0 := G) (w0 := w) r4 (i := 4) rfl)
  refine step_hand (o := oi 2) (nt := Try.f176.ntmps) (st := S _ h) rfl rfl rfl (fun c hc => by cases hc) (by decide) rfl r4 n4 rdy4 (j := j) (h' := h') (.inl ⟨177, #[a4.tmps.getD 3 undef, .func (.yield l) #[] #[]], ?_, ?_⟩) fun a5 G5 w5 r5 n5 d5 f5 => ?_
  · have := run_call (a := a4) (w := w4) Try.prog (o := oi 2) rfl rfl (f := 177) (fv := #[]) (cv := #[]) rfl callable
    rw [this]
    have e4 : a4.eval (.tmp 4) = .func (.yield l) #[] #[] := v4
    simp only [Array.map, Array.append_empty, Array.empty_append]
    congr 2
    show (#[.tmp 3, .tmp 4] : Array Operand).map a4.eval = _
    simp only [List.map_toArray, List.map_cons, List.map_nil, e4]
    rfl
  · exact walk_ok _ _ xs (Nat.lt_succ_self _) tr (d + 1) G4 w4 l rc rd _ h j h' rdy4 (rnd.later (Nat.le_succ d) f4) v3 r4.heap r4.within hf
  · obtain ⟨v, k1, ⟨G', k2, k3, k4, k5⟩, _⟩ := finish_ok (G0 := G5) (w0 := w5) okE0 r5.heap r5 (Fr.refl _ _ _) (ifin _ h')
    exact ⟨d5.trans hd4, v, k1, ⟨v, rfl⟩, G', ((f4.put rdy.there rdy.own).trans f5).trans k2, k3, k4⟩
end W33
end Go.Sh.T

/- ty.Has: a range over a function, by its shadow. -/
namespace Go.Sh.T
open Go Go.Sh Go.Proofs
set_option maxRecDepth 100000
set_option linter.unusedVariables false
set_option linter.unusedSimpArgs false

namespace H33
open W33 (Tr TrL pL pR)
theorem noPrims0 : PrimsOk E0 := fun f p h => by cases h
noncomputable def call0 : Nat → List AV → Heap → R := ev E0 1
theorem call0_ok : SoundC Try.prog call0 := ev_ok okE0 noPrims0 1

mutual
theorem tr : ∀ t : Ty, t.small = true → Tr t.cells (t.pre.map fun x => .agg x.cells)
  | ⟨k, n, s, ls, xs⟩, h => by
    rw [Ty.small, Bool.and_eq_true] at h
    rw [Ty.pre_eq, List.map_cons, Ty.cells_eq]
    exact .mk (by rw [← Ty.cellsL_map]; exact trL xs h.2) (by rw [List.length_map]; exact bleE h.1)
theorem trL : ∀ l : List Ty, Ty.smallL l = true → TrL (Ty.cellsL l) ((Ty.preL l).map fun x => .agg x.cells)
  | [], _ => by rw [Ty.preL, Ty.cellsL]; exact .nil
  | t :: r, h => by
    rw [Ty.smallL, Bool.and_eq_true] at h
    rw [Ty.preL_cons, Ty.cellsL, List.map_append]
    exact .cons (tr t h.1) (trL r h.2)
end

noncomputable def body : Code := Try.f130.body.getD .skip
noncomputable def A := pL body
noncomputable def B := pL (pL (pR body))
noncomputable def rng := pL (pR (pL (pR body)))
noncomputable def rest := pR (pR body)
def asg : Code → Code
  | .rangeFunc _ _ a _ => a
  | c => c
def bod : Code → Code
  | .rangeFunc _ _ _ b => b
  | c => c
abbrev HH : FHint := { hb := [3, 4], hp := [3, 4], base := [(9, 5)] }
abbrev fnC (i : Nat) : Slot := .c (.v (.fn 176 [] [.hp i 0]))
abbrev hpS (i : Nat) : Slot := .c (.v (.hp i 0))

section
variable (t : Ty) (k : Int) (h : Heap)
theorem kA (q0 q1 q2 q3 q4 : AV) : evC E0 HH Try.f130.ntmps call0 0 A 0 { s := lkS (argSlots 0 [.agg [q0, q1, q2, q3, q4], .lit (.int .i64 k)]), h := h } (kL [2, 3, 4]) kN = some ([(2, .loc [.v q0, .v q1, .v q2, .v q3, .v q4]), (3, hpS h.length), (4, hpS (h ++ ([[.v (.lit (.int .i64 k))]] : Heap)).length)], (h ++ ([[.v (.lit (.int .i64 k))]] : Heap)) ++ ([[.v (.lit (.bool false))]] : Heap)) := by kernel_rfl
theorem kB (q0 q1 q2 q3 q4 : AV) (i j : Nat) : evC E0 HH Try.f130.ntmps call0 0 B 0 { s := lkS [(2, .loc [.v q0, .v q1, .v q2, .v q3, .v q4]), (3, hpS i), (4, hpS j)], h := h } (kL [3, 4, 7]) kN = some ([(3, hpS i), (4, hpS j), (7, fnC h.length)], h ++ [[.v q0, .v q1, .v q2, .v q3, .v q4]]) := by kernel_rfl
theorem kR (q0 q1 q2 q3 q4 : AV) (i j : Nat) : roundE E0 HH Try.f130.ntmps call0 0 (lkS [(3, hpS i), (4, hpS j)]) 8 (asg rng) (bod rng) (.agg [q0, q1, q2, q3, q4]) h =
    (hpart false 1 0 i h).bind fun v => (binAV E0 .eql 3 q0 v).bind fun r => (boolOf r).bind fun b => cond b ((hstore h j 0 [.v (.lit (.bool true))]).bind fun h2 => some (some .ret, h2)) (some (none, h)) := by kernel_rfl
theorem kF (h0 : Heap) (i j : Nat) (f : Slot) : finish E0 HH Try.f130 h0 { s := lkS [(3, hpS i), (4, hpS j), (7, f)], h := h } = (hpart false 1 0 j h).bind fun a => trunc HH h0 (.ret a) h := by kernel_rfl
theorem kC (h0 : Heap) (i j : Nat) (f : Slot) : evC E0 HH Try.f130.ntmps call0 0 rest 0 { s := lkS [(3, hpS i), (4, hpS j), (7, f)], h := h } (fun e st' => match e with | .exit _ => none | _ => finish E0 HH Try.f130 h0 st') (fun _ _ => none) =
    (hstore h j 0 [.v (.lit (.bool false))]).bind fun h2 => (hpart false 1 0 j h2).bind fun a => trunc HH h0 (.ret a) h2 := by kernel_rfl
end

theorem fold (k : Int) (h : Heap) (z : List (List Cell)) : ∀ l : List Ty, foldR (roundE E0 HH Try.f130.ntmps call0 0 (lkS [(3, hpS h.length), (4, hpS (h.length + 1))]) 8 (asg rng) (bod rng)) (l.map fun x => .agg x.cells) (h ++ ([.v (.lit (.int .i64 k))] :: [.v (.lit (.bool false))] :: z)) =
    some (if l.any (fun x => x.k == k) then (some .ret, h ++ ([.v (.lit (.int .i64 k))] :: [.v (.lit (.bool true))] :: z)) else (none, h ++ ([.v (.lit (.int .i64 k))] :: [.v (.lit (.bool false))] :: z)))
  | [] => rfl
  | t :: l => by
    rw [List.map_cons, foldR, List.any_cons, Ty.cells_eq, kR, hpart_app0]
    have e1 : hpart false 1 0 0 ([.v (.lit (.int .i64 k))] :: [.v (.lit (.bool false))] :: z) = some (.lit (.int .i64 k)) := rfl
    have e2 : hstore ([.v (.lit (.int .i64 k))] :: [.v (.lit (.bool false))] :: z) 1 0 [.v (.lit (.bool true))] = some ([.v (.lit (.int .i64 k))] :: [.v (.lit (.bool true))] :: z) := rfl
    rw [e1, Option.bind_some, bin_int]
    simp only [intBin, Option.bind_some, boolOf]
    cases e : t.k == k with
    | true => rw [cond_true, hstore_app, e2]; rfl
    | false => simp only [cond_false, Option.bind_some, Bool.false_or]; exact fold k h z l

theorem has_ends (t : Ty) (ok : t.small = true) (k : Int) (h : Heap) : Ends Try.prog 130 [.agg t.cells, .lit (.int .i64 k)] h (.ret (.lit (.bool (t.has k)))) h := by
  have hlen : (h ++ [[Cell.v (.lit (.int .i64 k))]]).length = h.length + 1 := by simp
  have hA := kA k h (.lit (.int .i64 t.k)) (.lit (.int .i64 t.n)) (.lit (.string t.name)) (.sl 1 (t.labels.map strC)) (.sl 5 (t.args.map Ty.cells))
  rw [← Ty.cells_eq, hlen] at hA
  have hB := kB ((h ++ [[Cell.v (.lit (.int .i64 k))]]) ++ [[.v (.lit (.bool false))]]) (.lit (.int .i64 t.k)) (.lit (.int .i64 t.n)) (.lit (.string t.name)) (.sl 1 (t.labels.map strC)) (.sl 5 (t.args.map Ty.cells)) h.length (h.length + 1)
  obtain ⟨z, hz⟩ : ∃ z : List Cell, z = [.v (.lit (.int .i64 t.k)), .v (.lit (.int .i64 t.n)), .v (.lit (.string t.name)), .v (.sl 1 (t.labels.map strC)), .v (.sl 5 (t.args.map Ty.cells))] := ⟨_, rfl⟩
  have hzc : z.map Cell.get = t.cells := by rw [hz, Ty.cells_eq]; rfl
  rw [← hz] at hA hB
  have e1 : ((h ++ [[Cell.v (.lit (.int .i64 k))]]) ++ [[.v (.lit (.bool false))]]) ++ [z] = h ++ ([.v (.lit (.int .i64 k))] :: [.v (.lit (.bool false))] :: [z]) := by simp
  have hf := fold k h [z] t.pre
  refine range_fn (E := E0) (call := call0) okE0 call0_ok (fn := Try.f130) Try.func130 (by kernel_rfl) (by rfl : Try.f130.body = some (.seq A (.seq (.seq B (.block 0 (.rangeFunc (.tmp 7) #[8] (asg rng) (bod rng)))) rest))) (H := HH) (n := 0) (Nat.le_of_ble_eq_true rfl) [2, 3, 4] hA [3, 4, 7] hB (L := [(3, hpS h.length), (4, hpS (h.length + 1))]) rfl (by decide) (by rfl) (fun i => ?_) rfl
    (W33.iter_ok (tr t ok) ?_) (by rw [e1]; exact hf) ?_
  · rcases i with _ | _ | _ | _ | _ | i <;> first | exact .inr rfl | exact .inl rfl
  · rw [List.getElem?_append_right (Nat.le_refl _), Nat.sub_self]
    show some (z.map Cell.get) = _
    rw [hzc]
  · have p1 : hpart false 1 0 1 ([.v (.lit (.int .i64 k))] :: [.v (.lit (.bool true))] :: [z]) = some (.lit (.bool true)) := rfl
    have p2 : hpart false 1 0 1 ([.v (.lit (.int .i64 k))] :: [.v (.lit (.bool false))] :: [z]) = some (.lit (.bool false)) := rfl
    have p3 : hstore ([.v (.lit (.int .i64 k))] :: [.v (.lit (.bool false))] :: [z]) 1 0 [.v (.lit (.bool false))] = some ([.v (.lit (.int .i64 k))] :: [.v (.lit (.bool false))] :: [z]) := rfl
    rw [Ty.has_pre]
    cases e : t.pre.any (fun x => x.k == k) with
    | true =>
      rw [if_pos rfl]
      refine (kF _ h h.length (h.length + 1) _).trans ?_
      rw [hpart_app, p1, Option.bind_some, trunc_app (H := HH) rfl (show Out.lt _ (.ret (.lit _)) from AV.lt.lit _)]
    | false =>
      rw [if_neg (by simp)]
      refine (kC _ h h.length (h.length + 1) _).trans ?_
      rw [hstore_app, p3, Option.map_some, Option.bind_some, hpart_app, p2, Option.bind_some, trunc_app (H := HH) rfl (show Out.lt _ (.ret (.lit _)) from AV.lt.lit _)]
end H33

def p130 : (Nat → List AV → Heap → R) → List AV → Heap → R := fun _ args h => match args with
  | [.agg cs, .lit (.int .i64 k)] => (decC cs).bind fun t => bif t.small then some (.ret (.lit (.bool (t.has k))), h) else none
  | _ => none
theorem p130_ok (call : Nat → List AV → Heap → R) (args : List AV) (h : Heap) (out : Out) (h' : Heap) (e : p130 call args h = some (out, h')) : Ends Try.prog 130 args h out h' := by
  unfold p130 at e
  split at e
  · rw [Option.bind_eq_some_iff] at e; obtain ⟨t, ht, e⟩ := e
    obtain ⟨hs, e⟩ := condE e
    have e := Option.some.inj e; cases e
    rw [decC_ok ht]
    exact H33.has_ends t hs _ _
  · cases e
theorem p130_run (call : Nat → List AV → Heap → R) (t : Ty) (ok : t.Ok) (k : Int) (h : Heap) : p130 call [.agg t.cells, .lit (.int .i64 k)] h = some (.ret (.lit (.bool (t.has k))), h) := by
  show ((decC t.cells).bind fun t => bif t.small then some (Out.ret (.lit (.bool (t.has k))), h) else none) = _
  rw [decC_cells, Option.bind_some, Ty.ok_small t ok]; rfl
end Go.Sh.T

/- name.shape: a range over a string, by its shadow. -/
namespace Go.Sh.T
set_option maxRecDepth 100000
set_option linter.unusedVariables false
set_option linter.unusedSimpArgs false
open Go Go.Sh Go.Proofs

/- what is told of bytes -/
def lowB (c : Int) : Bool := bif decide (c ≥ 97) then decide (c ≤ 122) else false
def upB (c : Int) : Bool := bif decide (c ≥ 65) then decide (c ≤ 90) else false
def digB (c : Int) : Bool := bif decide (c ≥ 48) then decide (c ≤ 57) else false
def bytes (s : ByteArray) : List UInt8 := s.data.toList
theorem bytes_len (s : ByteArray) : (bytes s).length = s.size := by unfold bytes; exact Array.length_toList

namespace P178
theorem noPrims0 : PrimsOk E0 := fun f p h => by cases h
noncomputable def call0 : Nat → List AV → Heap → R := ev E0 3
theorem call0_ok : SoundC Try.prog call0 := ev_ok okE0 noPrims0 3
theorem low0 (c : Int) (h : Heap) : call0 180 [.lit (.int .i32 c)] h = some (.ret (.lit (.bool (lowB c))), h) := by
  have : call0 180 [.lit (.int .i32 c)] h = cond (decide (c ≥ 97)) (some (.ret (.lit (.bool (decide (c ≤ 122)))), h)) (some (.ret (.lit (.bool false)), h)) := by kernel_rfl
  rw [this]; unfold lowB; cases decide (c ≥ 97) <;> rfl
theorem up0 (c : Int) (h : Heap) : call0 181 [.lit (.int .i32 c)] h = some (.ret (.lit (.bool (upB c))), h) := by
  have : call0 181 [.lit (.int .i32 c)] h = cond (decide (c ≥ 65)) (some (.ret (.lit (.bool (decide (c ≤ 90)))), h)) (some (.ret (.lit (.bool false)), h)) := by kernel_rfl
  rw [this]; unfold upB; cases decide (c ≥ 65) <;> rfl
theorem dig0 (c : Int) (h : Heap) : call0 182 [.lit (.int .i32 c)] h = some (.ret (.lit (.bool (digB c))), h) := by
  have : call0 182 [.lit (.int .i32 c)] h = cond (decide (c ≥ 48)) (some (.ret (.lit (.bool (decide (c ≤ 57)))), h)) (some (.ret (.lit (.bool false)), h)) := by kernel_rfl
  rw [this]; unfold digB; cases decide (c ≥ 48) <;> rfl

def pL : Code → Code
  | .seq a _ => a
  | .block _ c => c
  | .loop c => c
  | .cond _ a _ => a
  | c => c
def pR : Code → Code
  | .seq _ b => b
  | .cond _ _ b => b
  | c => c
def opsOf : Code → Array Oper
  | .region _ ops _ => ops
  | _ => #[]
noncomputable def body : Code := Try.f178.body.getD .skip
noncomputable def R0 := pL body
noncomputable def R1 := pL (pL (pR body))
noncomputable def R2 := pL (pL (pR (pL (pR body))))
noncomputable def R3 := pL (pR (pR body))
noncomputable def t4 := pR (pR (pR body))
noncomputable def R4 := pL (pL t4)
noncomputable def lp := pL (pL (pR (pL t4)))
noncomputable def R5 := pL lp
noncomputable def b1 := pR (pR lp)
noncomputable def R14 := pL (pR t4)
noncomputable def o4 (i : Nat) : Oper := (opsOf R4).getD i default
noncomputable def o5 (i : Nat) : Oper := (opsOf R5).getD i default
abbrev S (l : List (Nat × Slot)) (h : Heap) : St := { s := lkS l, h := h }
noncomputable abbrev ev0 (L : List Nat) (c : Code) (st : St) : Option (List (Nat × Slot) × Heap) := evC E0 {} Try.f178.ntmps call0 0 c 0 st (kL L) kN
abbrev iv (i : Int) : Slot := .c (.v (.lit (.int .i64 i)))
abbrev bv (b : Bool) : Slot := .c (.v (.lit (.bool b)))
abbrev sv (s : ByteArray) : Slot := .c (.v (.lit (.string s)))
abbrev pv (k : Nat) : Slot := .c (.v (.lit (.pointer (some ⟨k, 0, none⟩))))

/-- What a round's body comes to. -/
def kS : Ex → St → Option ((AV × AV × Heap) ⊕ (AV × Heap))
  | .normal, st => ((st.s 3).av).bind fun a => ((st.s 10).av).bind fun b => some (.inl (a, b, st.h))
  | .ret, st => ((st.s 2).av).bind fun a => some (.inr (a, st.h))
  | _, _ => none
theorem b1nf (h : Heap) (x3 x10 x13 x14 : AV) : evC E0 {} Try.f178.ntmps call0 0 b1 0 (S [(3, .c (.v x3)), (10, .c (.v x10)), (11, .c (.v (.tup [.lit (.bool true), x13, x14])))] h) kS kN = (binAV E0 .eql 3 x13 (.lit (.int .i64 0))).bind fun r1 => (boolOf r1).bind fun b2 => cond b2 (onOut (call0 180 [x14] h) (fun a3 h4 => (boolOf a3).bind fun b5 => cond b5 (some (.inl (.lit (.int .i64 1), x10, h4))) ((binAV E0 .eql 3 x13 (.lit (.int .i64 0))).bind fun r6 => (boolOf r6).bind fun b7 => cond b7 (onOut (call0 181 [x14] h4) (fun a8 h9 => (boolOf a8).bind fun b10 => cond b10 (some (.inl (.lit (.int .i64 2), x10, h9))) ((binAV E0 .gtr 3 x13 (.lit (.int .i64 0))).bind fun r11 => (boolOf r11).bind fun b12 => cond b12 ((binAV E0 .neq 3 x3 (.lit (.int .i64 0))).bind fun r13 => (boolOf r13).bind fun b14 => cond b14 (onOut (call0 180 [x14] h9) (fun a15 h16 => (boolOf a15).bind fun b17 => cond b17 (some (.inl (x3, x10, h16))) (onOut (call0 182 [x14] h16) (fun a18 h19 => (boolOf a18).bind fun b20 => cond b20 (some (.inl (x3, x10, h19))) ((binAV E0 .gtr 3 x13 (.lit (.int .i64 0))).bind fun r21 => (boolOf r21).bind fun b22 => cond b22 ((binAV E0 .eql 3 x3 (.lit (.int .i64 2))).bind fun r23 => (boolOf r23).bind fun b24 => cond b24 (onOut (call0 181 [x14] h19) (fun a25 h26 => (boolOf a25).bind fun b27 => cond b27 (some (.inl (x3, x10, h26))) (some (.inr (.lit (.int .i64 0), h26)))) (fun _ _ _ => none) (fun _ _ => none)) (some (.inr (.lit (.int .i64 0), h19)))) (some (.inr (.lit (.int .i64 0), h19))))) (fun _ _ _ => none) (fun _ _ => none))) (fun _ _ _ => none) (fun _ _ => none)) ((binAV E0 .gtr 3 x13 (.lit (.int .i64 0))).bind fun r28 => (boolOf r28).bind fun b29 => cond b29 ((binAV E0 .eql 3 x3 (.lit (.int .i64 2))).bind fun r30 => (boolOf r30).bind fun b31 => cond b31 (onOut (call0 181 [x14] h9) (fun a32 h33 => (boolOf a32).bind fun b34 => cond b34 (some (.inl (x3, x10, h33))) (some (.inr (.lit (.int .i64 0), h33)))) (fun _ _ _ => none) (fun _ _ => none)) (some (.inr (.lit (.int .i64 0), h9)))) (some (.inr (.lit (.int .i64 0), h9))))) ((binAV E0 .gtr 3 x13 (.lit (.int .i64 0))).bind fun r35 => (boolOf r35).bind fun b36 => cond b36 ((binAV E0 .eql 3 x3 (.lit (.int .i64 2))).bind fun r37 => (boolOf r37).bind fun b38 => cond b38 (onOut (call0 181 [x14] h9) (fun a39 h40 => (boolOf a39).bind fun b41 => cond b41 (some (.inl (x3, x10, h40))) (some (.inr (.lit (.int .i64 0), h40)))) (fun _ _ _ => none) (fun _ _ => none)) (some (.inr (.lit (.int .i64 0), h9)))) (some (.inr (.lit (.int .i64 0), h9)))))) (fun _ _ _ => none) (fun _ _ => none)) ((binAV E0 .gtr 3 x13 (.lit (.int .i64 0))).bind fun r42 => (boolOf r42).bind fun b43 => cond b43 ((binAV E0 .neq 3 x3 (.lit (.int .i64 0))).bind fun r44 => (boolOf r44).bind fun b45 => cond b45 (onOut (call0 180 [x14] h4) (fun a46 h47 => (boolOf a46).bind fun b48 => cond b48 (some (.inl (x3, x10, h47))) (onOut (call0 182 [x14] h47) (fun a49 h50 => (boolOf a49).bind fun b51 => cond b51 (some (.inl (x3, x10, h50))) ((binAV E0 .gtr 3 x13 (.lit (.int .i64 0))).bind fun r52 => (boolOf r52).bind fun b53 => cond b53 ((binAV E0 .eql 3 x3 (.lit (.int .i64 2))).bind fun r54 => (boolOf r54).bind fun b55 => cond b55 (onOut (call0 181 [x14] h50) (fun a56 h57 => (boolOf a56).bind fun b58 => cond b58 (some (.inl (x3, x10, h57))) (some (.inr (.lit (.int .i64 0), h57)))) (fun _ _ _ => none) (fun _ _ => none)) (some (.inr (.lit (.int .i64 0), h50)))) (some (.inr (.lit (.int .i64 0), h50))))) (fun _ _ _ => none) (fun _ _ => none))) (fun _ _ _ => none) (fun _ _ => none)) ((binAV E0 .gtr 3 x13 (.lit (.int .i64 0))).bind fun r59 => (boolOf r59).bind fun b60 => cond b60 ((binAV E0 .eql 3 x3 (.lit (.int .i64 2))).bind fun r61 => (boolOf r61).bind fun b62 => cond b62 (onOut (call0 181 [x14] h4) (fun a63 h64 => (boolOf a63).bind fun b65 => cond b65 (some (.inl (x3, x10, h64))) (some (.inr (.lit (.int .i64 0), h64)))) (fun _ _ _ => none) (fun _ _ => none)) (some (.inr (.lit (.int .i64 0), h4)))) (some (.inr (.lit (.int .i64 0), h4))))) ((binAV E0 .gtr 3 x13 (.lit (.int .i64 0))).bind fun r66 => (boolOf r66).bind fun b67 => cond b67 ((binAV E0 .eql 3 x3 (.lit (.int .i64 2))).bind fun r68 => (boolOf r68).bind fun b69 => cond b69 (onOut (call0 181 [x14] h4) (fun a70 h71 => (boolOf a70).bind fun b72 => cond b72 (some (.inl (x3, x10, h71))) (some (.inr (.lit (.int .i64 0), h71)))) (fun _ _ _ => none) (fun _ _ => none)) (some (.inr (.lit (.int .i64 0), h4)))) (some (.inr (.lit (.int .i64 0), h4))))))) (fun _ _ _ => none) (fun _ _ => none)) ((binAV E0 .eql 3 x13 (.lit (.int .i64 0))).bind fun r73 => (boolOf r73).bind fun b74 => cond b74 (onOut (call0 181 [x14] h) (fun a75 h76 => (boolOf a75).bind fun b77 => cond b77 (some (.inl (.lit (.int .i64 2), x10, h76))) ((binAV E0 .gtr 3 x13 (.lit (.int .i64 0))).bind fun r78 => (boolOf r78).bind fun b79 => cond b79 ((binAV E0 .neq 3 x3 (.lit (.int .i64 0))).bind fun r80 => (boolOf r80).bind fun b81 => cond b81 (onOut (call0 180 [x14] h76) (fun a82 h83 => (boolOf a82).bind fun b84 => cond b84 (some (.inl (x3, x10, h83))) (onOut (call0 182 [x14] h83) (fun a85 h86 => (boolOf a85).bind fun b87 => cond b87 (some (.inl (x3, x10, h86))) ((binAV E0 .gtr 3 x13 (.lit (.int .i64 0))).bind fun r88 => (boolOf r88).bind fun b89 => cond b89 ((binAV E0 .eql 3 x3 (.lit (.int .i64 2))).bind fun r90 => (boolOf r90).bind fun b91 => cond b91 (onOut (call0 181 [x14] h86) (fun a92 h93 => (boolOf a92).bind fun b94 => cond b94 (some (.inl (x3, x10, h93))) (some (.inr (.lit (.int .i64 0), h93)))) (fun _ _ _ => none) (fun _ _ => none)) (some (.inr (.lit (.int .i64 0), h86)))) (some (.inr (.lit (.int .i64 0), h86))))) (fun _ _ _ => none) (fun _ _ => none))) (fun _ _ _ => none) (fun _ _ => none)) ((binAV E0 .gtr 3 x13 (.lit (.int .i64 0))).bind fun r95 => (boolOf r95).bind fun b96 => cond b96 ((binAV E0 .eql 3 x3 (.lit (.int .i64 2))).bind fun r97 => (boolOf r97).bind fun b98 => cond b98 (onOut (call0 181 [x14] h76) (fun a99 h100 => (boolOf a99).bind fun b101 => cond b101 (some (.inl (x3, x10, h100))) (some (.inr (.lit (.int .i64 0), h100)))) (fun _ _ _ => none) (fun _ _ => none)) (some (.inr (.lit (.int .i64 0), h76)))) (some (.inr (.lit (.int .i64 0), h76))))) ((binAV E0 .gtr 3 x13 (.lit (.int .i64 0))).bind fun r102 => (boolOf r102).bind fun b103 => cond b103 ((binAV E0 .eql 3 x3 (.lit (.int .i64 2))).bind fun r104 => (boolOf r104).bind fun b105 => cond b105 (onOut (call0 181 [x14] h76) (fun a106 h107 => (boolOf a106).bind fun b108 => cond b108 (some (.inl (x3, x10, h107))) (some (.inr (.lit (.int .i64 0), h107)))) (fun _ _ _ => none) (fun _ _ => none)) (some (.inr (.lit (.int .i64 0), h76)))) (some (.inr (.lit (.int .i64 0), h76)))))) (fun _ _ _ => none) (fun _ _ => none)) ((binAV E0 .gtr 3 x13 (.lit (.int .i64 0))).bind fun r109 => (boolOf r109).bind fun b110 => cond b110 ((binAV E0 .neq 3 x3 (.lit (.int .i64 0))).bind fun r111 => (boolOf r111).bind fun b112 => cond b112 (onOut (call0 180 [x14] h) (fun a113 h114 => (boolOf a113).bind fun b115 => cond b115 (some (.inl (x3, x10, h114))) (onOut (call0 182 [x14] h114) (fun a116 h117 => (boolOf a116).bind fun b118 => cond b118 (some (.inl (x3, x10, h117))) ((binAV E0 .gtr 3 x13 (.lit (.int .i64 0))).bind fun r119 => (boolOf r119).bind fun b120 => cond b120 ((binAV E0 .eql 3 x3 (.lit (.int .i64 2))).bind fun r121 => (boolOf r121).bind fun b122 => cond b122 (onOut (call0 181 [x14] h117) (fun a123 h124 => (boolOf a123).bind fun b125 => cond b125 (some (.inl (x3, x10, h124))) (some (.inr (.lit (.int .i64 0), h124)))) (fun _ _ _ => none) (fun _ _ => none)) (some (.inr (.lit (.int .i64 0), h117)))) (some (.inr (.lit (.int .i64 0), h117))))) (fun _ _ _ => none) (fun _ _ => none))) (fun _ _ _ => none) (fun _ _ => none)) ((binAV E0 .gtr 3 x13 (.lit (.int .i64 0))).bind fun r126 => (boolOf r126).bind fun b127 => cond b127 ((binAV E0 .eql 3 x3 (.lit (.int .i64 2))).bind fun r128 => (boolOf r128).bind fun b129 => cond b129 (onOut (call0 181 [x14] h) (fun a130 h131 => (boolOf a130).bind fun b132 => cond b132 (some (.inl (x3, x10, h131))) (some (.inr (.lit (.int .i64 0), h131)))) (fun _ _ _ => none) (fun _ _ => none)) (some (.inr (.lit (.int .i64 0), h)))) (some (.inr (.lit (.int .i64 0), h))))) ((binAV E0 .gtr 3 x13 (.lit (.int .i64 0))).bind fun r133 => (boolOf r133).bind fun b134 => cond b134 ((binAV E0 .eql 3 x3 (.lit (.int .i64 2))).bind fun r135 => (boolOf r135).bind fun b136 => cond b136 (onOut (call0 181 [x14] h) (fun a137 h138 => (boolOf a137).bind fun b139 => cond b139 (some (.inl (x3, x10, h138))) (some (.inr (.lit (.int .i64 0), h138)))) (fun _ _ _ => none) (fun _ _ => none)) (some (.inr (.lit (.int .i64 0), h)))) (some (.inr (.lit (.int .i64 0), h)))))) := by kernel_rfl

/-- One round, of plain values: the next kind; none: no name. -/
def stepP (z : Bool) (k c : Int) : Option Int :=
  bif z && lowB c then some 1 else bif z && upB c then some 2 else bif !z && (k != 0 && (lowB c || digB c)) then some k else bif !z && (k == 2 && upB c) then some k else none
def outP (q : Nat) (h : Heap) (r : Option Int) : (AV × AV × Heap) ⊕ (AV × Heap) := match r with
  | some k => .inl (.lit (.int .i64 k), .lit (.pointer (some ⟨q, 0, none⟩)), h)
  | none => .inr (.lit (.int .i64 0), h)

theorem body_ok (h : Heap) (k c : Int) (i q : Nat) (b : Bool) : evC E0 {} Try.f178.ntmps call0 0 b1 0 (S [(3, iv k), (10, pv q), (11, .c (.v (.tup [.lit (.bool true), .lit (.int .i64 (i : Int)), .lit (.int .i32 c)])))] h) kS kN = some (outP q h (stepP (i == 0) k c)) := by
  rw [b1nf]
  have e1 : (((i : Int) == 0)) = (i == 0) := by rw [Bool.eq_iff_iff]; simp
  have e2 : decide ((i : Int) > 0) = !(i == 0) := by rw [Bool.eq_iff_iff]; simp; omega
  simp only [bin_int, eqlI, neqI, gtrI, bind_some', boolB, low0, up0, dig0, onOut_ret, e1, e2]
  unfold stepP
  cases i == 0 <;> cases lowB c <;> cases upB c <;> cases digB c <;> cases k != 0 <;> cases k == 2 <;> rfl

section
variable (s : ByteArray) (h : Heap)
theorem e0 : ev0 [0] R0 (S [(0, sv s)] h) = some ([(0, sv s)], h) := by kernel_rfl
theorem e1 : ev0 [0, 8] R1 (S [(0, sv s)] h) = some ([(0, sv s), (8, bv (decide ((s.size : Int) > 8)))], h) := by kernel_rfl
theorem e2 (st : Nat → Slot) : ev0 [2] R2 { s := st, h := h } = some ([(2, iv 0)], h) := by kernel_rfl
theorem e3 (b : Bool) : ev0 [0, 3] R3 (S [(0, sv s), (8, bv b)] h) = some ([(0, sv s), (3, iv 0)], h) := by kernel_rfl
theorem e40 : stepK E0 {} Try.f178.ntmps call0 (opsOf R4) 0 (o4 0) (S [(0, sv s), (3, iv 0)] h) (kLs [3, 9]) kN = some ([(3, iv 0), (9, sv s)], h) := by kernel_rfl
theorem e51 (k : Int) (q : Nat) (x y : AV) : stepK E0 {} Try.f178.ntmps call0 (opsOf R5) 1 (o5 1) { s := upd (lkS [(3, iv k), (10, pv q)]) 11 (.c (.v (.tup [.lit (.bool true), x, y]))), h := h } (kLs [3, 10, 11, 12]) kN = some ([(3, iv k), (10, pv q), (11, .c (.v (.tup [.lit (.bool true), x, y]))), (12, bv true)], h) := by kernel_rfl
theorem e51f (k : Int) (q : Nat) : stepK E0 {} Try.f178.ntmps call0 (opsOf R5) 1 (o5 1) { s := upd (lkS [(3, iv k), (10, pv q)]) 11 (.c (.v (.tup [.lit (.bool false)]))), h := h } (kLs [3, 12]) kN = some ([(3, iv k), (12, bv false)], h) := by kernel_rfl
theorem e14 (k : Int) : ev0 [2] R14 (S [(3, iv k)] h) = some ([(2, iv k)], h) := by kernel_rfl
theorem fin2 (k : Int) : finish E0 {} Try.f178 h (S [(2, iv k)] h) = some (.ret (.lit (.int .i64 k)), h) := by kernel_rfl
end

/-- From a place on. -/
def goP (s : ByteArray) : Nat → Nat → Int → Int
  | 0, _, _ => 0
  | m + 1, pos, k => if h : pos < s.size then (match stepP (pos == 0) k (Utf8.decode s pos).1 with
      | some k' => goP s m (pos + (Utf8.decode s pos).2) k'
      | none => 0) else k
theorem decode_pos (s : ByteArray) (pos : Nat) : 1 ≤ (Utf8.decode s pos).2 := by
  simp only [Utf8.decode]
  repeat' split
  all_goals first | exact Nat.le_refl 1 | exact (by decide : 1 ≤ 2) | exact (by decide : 1 ≤ 3) | exact (by decide : 1 ≤ 4)

theorem decode_le (s : ByteArray) (pos : Nat) (h : pos < s.size) : pos + (Utf8.decode s pos).2 ≤ s.size := by
  simp only [Utf8.decode]
  repeat' split
  all_goals rename_i hc
  all_goals simp only [Bool.and_eq_true, decide_eq_true_eq] at *
  all_goals first | (show pos + 1 ≤ s.size; omega) | (show pos + 2 ≤ s.size; omega) | (show pos + 3 ≤ s.size; omega) | (show pos + 4 ≤ s.size; omega)

theorem slotA {d : Nat} {G : Gh} {w : World} {st : St} {a : Act} (r : RepSt d G w st a.tmps) {i : Nat} {x : AV} (h : st.s i = .c (.v x)) : RepA G.S w G.μ x (a.tmps.getD i undef) := by
  have := r.slot i
  rw [h] at this; exact this

theorem done_ok {d : Nat} {G0 : Gh} {w0 : World} {h : Heap} {a : Act} {w : World} {k : Int} (hat : AtSt d Try.f178.ntmps G0 w0 (S [(2, iv k)] h) a w) (hd : a.defers = []) : bodyPost Try.prog Try.f178 (EndOk d G0 w0 (.ret (.lit (.int .i64 k))) h) .ret a w := by
  obtain ⟨G, r, hnt, hf⟩ := hat
  obtain ⟨v, k1, ⟨G', k2, k3, k4, k5⟩, _⟩ := finish_ok (G0 := G) (w0 := w) okE0 r.heap r (Fr.refl _ _ _) (fin2 h k)
  exact ⟨hd, v, k1, G', hf.trans k2, k3, k4, k5⟩
theorem of_avs {d : Nat} {G : Gh} {w : World} {st : St} {tmps : Array Value} (r : RepSt d G w st tmps) (l : List (Nat × AV)) (hl : ∀ p ∈ l, (st.s p.1).av = some p.2) : RepSt d G w (S (l.map fun p => (p.1, .c (.v p.2))) st.h) tmps := by
  refine ⟨fun i => ?_, fun u t off hu => ?_, r.heap, r.within⟩
  · show RepSlot G w d i (lkS _ i) _
    rcases lkS_spec (l.map fun p => (p.1, Slot.c (.v p.2))) i with e | e
    · rw [e]; trivial
    · obtain ⟨p, hp, e2⟩ := List.mem_map.1 e
      have e3 := (Prod.mk.inj e2).1; have e4 := (Prod.mk.inj e2).2
      subst e3; rw [← e4]; exact (r.slot p.1).av (hl p hp)
  · have hu : lkS (l.map fun p => (p.1, Slot.c (.v p.2))) u = .path t off := hu
    rcases lkS_spec (l.map fun p => (p.1, Slot.c (.v p.2))) u with e | e
    · rw [e] at hu; cases hu
    · obtain ⟨p, hp, e2⟩ := List.mem_map.1 e
      have e4 := (Prod.mk.inj e2).2
      rw [hu] at e4; cases e4

theorem loop_ok {d q : Nat} {G0 : Gh} {w0 : World} {h : Heap} {s : ByteArray} (hq : w0.heap.size ≤ q) {r : Int} {Q : Exit → Act → World → Prop}
    (hex : ∀ a w, AtSt d Try.f178.ntmps G0 w0 (S [(3, iv r)] h) a w → a.defers = [] → Q (.exit 0) a w)
    (hret : r = 0 → ∀ a w, AtSt d Try.f178.ntmps G0 w0 (S [(2, iv 0)] h) a w → a.defers = [] → Q .ret a w) :
    ∀ (m pos : Nat) (k : Int) (a : Act) (G : Gh) (w : World), s.size < m + pos → pos ≤ s.size → goP s m pos k = r → RepSt d G w (S [(3, iv k), (10, pv q)] h) a.tmps → a.tmps.size = Try.f178.ntmps → Fr d G0 w0 G w → G.O q = .none → w.heap[q]? = some (.stringIter s pos) → a.defers = [] →
      Code.roundsIn (FF none) 0 Try.prog lp Q m a w
  | 0, pos, k, a, G, w, h1, hle, hr, rs, hn, hf, ho, hi, hd => by omega
  | m + 1, pos, k, a, G, w, h1, hle, hr, rs, hn, hf, ho, hi, hd => by
    rw [roundsIn_succ]
    refine wpIn_seq (wpIn_region ?_)
    change wpOpsIn _ _ _ (opsOf R5) _ [0, 1] _ _
    rw [wpOpsIn_cons]
    have v10 : a.tmps.getD 10 undef = .pointer (some ⟨q, 0, none⟩) := (slotA rs (i := 10) rfl).litE
    have hev : a.eval (.tmp 10) = .pointer (some ⟨q, 0, none⟩) := v10
    have hx : ∀ arr T fz, Obj.stringIter s pos ≠ .cells arr T fz := fun _ _ _ e => by cases e
    unfold goP at hr
    by_cases hp : pos < s.size
    · rw [dif_pos hp] at hr
      have hy : ∀ arr T fz, Obj.stringIter s (pos + (Utf8.decode s pos).2) ≠ .cells arr T fz := fun _ _ _ e => by cases e
      have rs1 := st_putN (y := .stringIter s (pos + (Utf8.decode s pos).2)) hi hx hy ho rs
      have f1 : Fr d G0 w0 G (w.putObj q (.stringIter s (pos + (Utf8.decode s pos).2))) := hf.putN hq hi hx hy
      refine step_value (o := o5 0) (nt := Try.f178.ntmps) (st := S _ h) (x := .tup [.lit (.bool true), .lit (.int .i64 (pos : Int)), .lit (.int .i32 ((Utf8.decode s pos).1 : Int))]) (v := .tuple #[.bool true, .int .i64 pos, .int .i32 (Utf8.decode s pos).1]) (w' := w.putObj q (.stringIter s (pos + (Utf8.decode s pos).2))) (G' := G) rfl rfl rfl (fun c hc => by cases hc) (by decide) rfl hn ?_ rs1 (.tup (.cons (.lit rfl) (.cons (.lit rfl) (.cons (.lit rfl) .nil)))) fun a1 r1 n1 d1 => ?_
      · have hnx := Lib.run_next_any_at (P := Try.prog) w q s pos (o5 0).type hi hp
        unfold execOp
        show Sem.run Try.prog (Instr.next (a.eval (.tmp 10)) true _ >>= _) w = _
        rw [hev, Sem.run_bind, hnx]
        rfl
      · rw [wpOpsIn_cons]
        refine step_keep okE0 call0_ok (H := {}) (G0 := G) (w0 := w.putObj q (.stringIter s (pos + (Utf8.decode s pos).2))) rfl [3, 10, 11, 12] (e51 h k q _ _) ⟨G, r1, n1, Fr.refl _ _ _⟩ (d1.trans hd) fun a2 w2 hat2 hd2 => ?_
        obtain ⟨G2, r2, n2, f2⟩ := hat2
        refine wpIn_seq (wpIn_cond_true (slotA r2 (i := 12) rfl).litE (wpIn_skip ?_))
        have rk := r2.keep (some [3, 10, 11])
        refine Code.wpIn_mono (fun e a3 w3 hq3 => ?_) (evC_ok (ro := none) (nn := 0) (D := []) (G0 := G2) (w0 := w2) okE0 call0_ok b1 0 _ kS a2 w2 (body_ok h k (Utf8.decode s pos).1 pos q true) ⟨G2, rk, n2, Fr.refl _ _ _⟩ hd2)
        obtain ⟨hd3, hq3⟩ := hq3
        have hq0 : q < (w.putObj q (.stringIter s (pos + (Utf8.decode s pos).2))).heap.size := by simpa using lt_of_heap hi
        have s2 := f2.same q hq0 (by rw [ho]; rfl)
        have hi2 : w2.heap[q]? = some (.stringIter s (pos + (Utf8.decode s pos).2)) := s2.1.trans (put_same (lt_of_heap hi))
        cases e with
        | normal =>
          obtain ⟨st', G3, k1, k2, k3, k4⟩ := hq3
          unfold kS at k1
          simp only at k1
          rw [Option.bind_eq_some_iff] at k1; obtain ⟨x3, hx3, k1⟩ := k1
          rw [Option.bind_eq_some_iff] at k1; obtain ⟨x10, hx10, k1⟩ := k1
          have k1 := Option.some.inj k1
          cases hs : stepP (pos == 0) k ((Utf8.decode s pos).1 : Int) with
          | none => rw [hs] at k1; cases k1
          | some k' =>
            rw [hs] at k1 hr
            simp only [outP, Sum.inl.injEq, Prod.mk.injEq] at k1
            obtain ⟨rfl, rfl, hh⟩ := k1
            have rk3 := of_avs k2 [(3, .lit (.int .i64 k')), (10, .lit (.pointer (some ⟨q, 0, none⟩)))] (fun p hp => by
              simp only [List.mem_cons, List.not_mem_nil, or_false] at hp
              rcases hp with e | e
              · rw [e]; exact hx3
              · rw [e]; exact hx10)
            rw [hh] at rk3
            have s3 := k4.same q (lt_of_heap hi2) (by rw [s2.2.2, ho]; rfl)
            have hw := decode_pos s pos
            exact loop_ok hq hex hret m _ k' a3 G3 w3 (by omega) (decode_le s pos hp) hr rk3 k3 ((f1.trans f2).trans k4) (s3.2.2.trans (s2.2.2.trans ho)) (s3.1.trans hi2) hd3
        | ret =>
          obtain ⟨st', G3, k1, k2, k3, k4⟩ := hq3
          unfold kS at k1
          simp only at k1
          rw [Option.bind_eq_some_iff] at k1; obtain ⟨x2, hx2, k1⟩ := k1
          have k1 := Option.some.inj k1
          cases hs : stepP (pos == 0) k ((Utf8.decode s pos).1 : Int) with
          | some k' => rw [hs] at k1; cases k1
          | none =>
            rw [hs] at k1 hr
            simp only [outP, Sum.inr.injEq, Prod.mk.injEq] at k1
            obtain ⟨rfl, hh⟩ := k1
            have rk3 := of_avs k2 [(2, .lit (.int .i64 0))] (fun p hp => by
              simp only [List.mem_cons, List.not_mem_nil, or_false] at hp
              rw [hp]; exact hx2)
            rw [hh] at rk3
            exact hret hr.symm a3 w3 ⟨G3, rk3, k3, (f1.trans f2).trans k4⟩ hd3
        | exit i => obtain ⟨st', G3, k1, _⟩ := hq3; cases k1
        | panic ch => obtain ⟨x, v, G3, h', _, k1, _⟩ := hq3; cases k1
        | goto l => exact hq3.elim
        | outgrown => exact hq3.elim
    · rw [dif_neg hp] at hr
      subst hr
      refine step_value (o := o5 0) (nt := Try.f178.ntmps) (st := S _ h) (x := .tup [.lit (.bool false)]) (v := .tuple #[.bool false]) (w' := w) (G' := G) rfl rfl rfl (fun c hc => by cases hc) (by decide) rfl hn ?_ rs (.tup (.cons (.lit rfl) .nil)) fun a1 r1 n1 d1 => ?_
      · have hnx := Lib.run_next_end_at (P := Try.prog) w q s pos (o5 0).type hi hp
        unfold execOp
        show Sem.run Try.prog (Instr.next (a.eval (.tmp 10)) true _ >>= _) w = _
        rw [hev, Sem.run_bind, hnx]
        rfl
      · rw [wpOpsIn_cons]
        refine step_keep okE0 call0_ok (H := {}) (G0 := G0) (w0 := w0) rfl [3, 12] (e51f h k q) ⟨G, r1, n1, hf⟩ (d1.trans hd) fun a2 w2 hat2 hd2 => ?_
        obtain ⟨G2, r2, n2, f2⟩ := hat2
        refine wpIn_seq (wpIn_cond_false (slotA r2 (i := 12) rfl).litE (wpIn_exit ?_))
        exact hex a2 w2 ⟨G2, r2.keep (some [3]), n2, f2⟩ hd2

/-- What a text is by its letters alone. -/
def shapeP (s : ByteArray) : Int := bif decide ((s.size : Int) > 8) then 0 else goP s 10 0 0

theorem shape_ends (s : ByteArray) (h : Heap) : Ends Try.prog 178 [.lit (.string s)] h (.ret (.lit (.int .i64 (shapeP s)))) h := by
  refine ⟨⟨Try.f178, Try.func178, by kernel_rfl, rfl⟩, fun d G w argv hr hh hw => ?_⟩
  refine calls_of_wp Try.func178 rfl ?_
  refine (wpIn_wide (n := 0)).1 ?_
  have hal : argv.size = 1 := by simpa using hr.length.symm
  have hat : AtSt d Try.f178.ntmps G w (S [(0, sv s)] h) { tmps := argv ++ Array.replicate (Try.f178.ntmps - argv.size) undef, defers := [] } w := by
    refine ⟨G, ⟨fun i => ?_, fun u t off hu => ?_, hh, hw⟩, by rw [Array.size_append, Array.size_replicate, hal]; rfl, Fr.refl d G w⟩
    · rcases lkS_spec [(0, sv s)] i with e | e
      · show RepSlot _ _ _ _ (lkS _ _) _
        rw [e]; trivial
      · refine argSlots_spec [.lit (.string s)] 0 argv.toList hr (fun j x hj => ?_) _ e
        have hj' : j < argv.size := by simpa using (List.getElem?_eq_some_iff.1 hj).1
        rw [Nat.zero_add, Array.getD_eq_getD_getElem?, Array.getElem?_append_left hj', ← Array.getElem?_toList, hj]; rfl
    · exfalso
      have hu : lkS [(0, sv s)] u = .path t off := hu
      rcases lkS_spec [(0, sv s)] u with e | e
      · rw [e] at hu; cases hu
      · rw [hu] at e; simp at e
  refine wpIn_seq (seg_keep okE0 call0_ok (H := {}) (n := 0) (bi := 0) [0] (e0 s h) hat rfl fun a1 w1 hat1 hd1 => ?_)
  refine wpIn_seq (wpIn_seq (seg_keep okE0 call0_ok (H := {}) (n := 0) (bi := 0) [0, 8] (e1 s h) hat1 hd1 fun a2 w2 hat2 hd2 => ?_))
  obtain ⟨G2, r2, n2, f2⟩ := hat2
  have hb := (slotA r2 (i := 8) rfl).litE
  unfold shapeP
  cases hd8 : decide ((s.size : Int) > 8) with
  | true =>
    rw [hd8] at hb
    refine wpIn_cond_true hb (wpIn_seq (seg_keep okE0 call0_ok (H := {}) (n := 0) (bi := 0) [2] (e2 h _) ⟨G2, r2, n2, f2⟩ hd2 fun a3 w3 hat3 hd3 => ?_))
    exact wpIn_ret (done_ok hat3 hd3)
  | false =>
    rw [hd8] at hb
    have h9 : ¬ ((s.size : Int) > 8) := of_decide_eq_false hd8
    have h8 : s.size ≤ 8 := by omega
    refine wpIn_cond_false hb (wpIn_skip ?_)
    refine wpIn_seq (seg_keep okE0 call0_ok (H := {}) (n := 0) (bi := 0) [0, 3] (e3 s h _) ⟨G2, r2, n2, f2⟩ hd2 fun a3 w3 hat3 hd3 => ?_)
    refine wpIn_seq (wpIn_seq (wpIn_region ?_))
    change wpOpsIn _ _ _ (opsOf R4) _ [0, 1] _ _
    rw [wpOpsIn_cons]
    refine step_keep okE0 call0_ok (H := {}) rfl [3, 9] (e40 s h) hat3 hd3 fun a4 w4 hat4 hd4 => ?_
    rw [wpOpsIn_cons]
    obtain ⟨G4, r4, n4, f4⟩ := hat4
    have v9 : a4.eval (.tmp 9) = .string s := (slotA r4 (i := 9) rfl).litE
    obtain ⟨ra, fa⟩ := st_alloc (.stringIter s 0) r4
    refine step_value (o := o4 1) (nt := Try.f178.ntmps) (st := S _ h) (x := .lit (.pointer (some ⟨w4.heap.size, 0, none⟩))) (v := .pointer (some ⟨w4.heap.size, 0, none⟩)) (w' := w4.alloc (.stringIter s 0)) (G' := setO G4 w4.heap.size .none) rfl rfl rfl (fun c hc => by cases hc) (by decide) rfl n4 ?_ ra (.lit rfl) fun a5 r5 n5 d5 => ?_
    · have hnx := run_range_string (P := Try.prog) w4 9 s Try.underlying9
      unfold execOp
      show Sem.run Try.prog (Instr.range 9 (a4.eval (.tmp 9)) >>= _) w4 = _
      rw [v9, Sem.run_bind, hnx]
      rfl
    · refine wpIn_block (wpIn_loop_rounds 10 ?_)
      have r6 := r5.keep (some [3, 10])
      refine loop_ok (r := goP s 10 0 0) (h := h) (s := s) (G0 := G) (w0 := w) (q := w4.heap.size) f4.size ?_ ?_ 10 0 0 a5 (setO G4 w4.heap.size .none) (w4.alloc (.stringIter s 0)) (by omega) (Nat.zero_le _) rfl r6 n5 (f4.trans fa) setO_self (heap_alloc_new _ _) (d5.trans hd4)
      · intro a6 w6 hat6 hd6
        show Code.wpIn (FF none) 0 Try.prog (pR t4) (bodyPost Try.prog Try.f178 (EndOk d G w (.ret (.lit (.int .i64 (goP s 10 0 0)))) h)) a6 w6
        refine wpIn_seq (seg_keep okE0 call0_ok (H := {}) (n := 0) (bi := 0) [2] (e14 h _) hat6 hd6 fun a7 w7 hat7 hd7 => ?_)
        exact wpIn_ret (done_ok hat7 hd7)
      · intro hr0 a6 w6 hat6 hd6
        rw [show cond false 0 (goP s 10 0 0) = goP s 10 0 0 from rfl, hr0]
        exact done_ok hat6 hd6
end P178

def p178 : (Nat → List AV → Heap → R) → List AV → Heap → R := fun _ args h => match args with
  | [.lit (.string s)] => some (.ret (.lit (.int .i64 (P178.shapeP s))), h)
  | _ => none
theorem p178_ok (call : Nat → List AV → Heap → R) (args : List AV) (h : Heap) (out : Out) (h' : Heap) (e : p178 call args h = some (out, h')) : Ends Try.prog 178 args h out h' := by
  unfold p178 at e
  split at e
  · have e := Option.some.inj e; cases e
    exact P178.shape_ends _ _
  · cases e
end Go.Sh.T

/- cast.Do: what panics within is recovered, by its shadow. -/
namespace Go.Sh.T
set_option maxRecDepth 100000
set_option linter.unusedVariables false
set_option linter.unusedSimpArgs false
open Go Go.Sh Go.Proofs

namespace CD
def pL : Code → Code
  | .seq a _ => a
  | .block _ c => c
  | .cond _ a _ => a
  | c => c
def pR : Code → Code
  | .seq _ b => b
  | .cond _ _ b => b
  | c => c
def opsOf : Code → Array Oper
  | .region _ ops _ => ops
  | _ => #[]
noncomputable def body : Code := Try.f59.body.getD .skip
noncomputable def A := pL body
noncomputable def R1 := pL (pR body)
noncomputable def R2 := pL (pR (pR body))
noncomputable def ops2 := opsOf R2
noncomputable def o7 : Oper := ops2.getD 7 default
noncomputable def pre2 := (indexed ops2).take 7
noncomputable def post2 := (indexed ops2).drop 8
noncomputable def bod7 : Code := Try.f107.body.getD .skip
noncomputable def K0 := pL bod7
noncomputable def B0 := pL (pR bod7)
noncomputable def K3 := pL B0
noncomputable def K5 := pL (pR (pR B0))
noncomputable def T := pL (pR (pR (pR B0)))
abbrev H59 : FHint := { hb := [10, 11, 12, 16], hp := [10, 11, 12, 16], pans := [21] }
abbrev H107 : FHint := { hp := [0, 1, 2], base := [(13, 4)] }
abbrev hpS (i : Nat) : Slot := .c (.v (.hp i 0))

/-- The deferred function's work where the panic is one of the cast's. -/
noncomputable def caught (h : Heap) (lA : List (Nat × Slot)) (st : St) (cs : List AV) (h3 : Heap) : R :=
  (hpOf (lkS lA 10)).bind fun i => (hpOf (lkS lA 11)).bind fun j => (hpOf (lkS lA 12)).bind fun k => (hpOf (st.s 10)).bind fun i' => (hpOf (st.s 11)).bind fun j' => (hpOf (st.s 12)).bind fun k' =>
  evC E0 H107 Try.f107.ntmps noCall 0 T 0 { s := lkS [(0, hpS i), (1, hpS j), (2, hpS k), (11, .c (.v (.agg cs)))], h := h3 } (fun e st' => match e with
    | .normal => finish E0 H59 Try.f59 h { s := lkS [(10, hpS i'), (11, hpS j'), (12, hpS k')], h := st'.h }
    | _ => none) kN

noncomputable def start (args : List AV) (h : Heap) : Option (List (Nat × Slot) × St) :=
  (evC E0 H59 Try.f59.ntmps noCall 0 A 0 { s := lkS (argSlots 0 args), h := h } (kL [0, 6, 7, 8, 9, 10, 11, 12]) kN).bind fun p =>
  (opsK E0 H59 Try.f59.ntmps noCall ops2 pre2 { s := upd (lkS p.1) 13 .dead, h := p.2 } kS kP).bind fun r => match r with
    | .inl st => some (p.1, st)
    | .inr _ => none
noncomputable def after (h : Heap) (q : List (Nat × Slot) × St) : SR → R
  | .inl st3 => opsK E0 H59 Try.f59.ntmps noCall ops2 post2 st3 (finish E0 H59 Try.f59 h) kN
  | .inr (.ifc t (.agg cs), h3) => bif Nat.beq t 110 then caught h q.1 q.2 cs h3 else none
  | .inr _ => none
end CD
noncomputable def p59 : (Nat → List AV → Heap → R) → List AV → Heap → R := fun call args h => bif Nat.ble args.length Try.f59.ntmps then
  (CD.start args h).bind fun q => (stepD E0 CD.H59 Try.f59.ntmps call CD.ops2 7 CD.o7 q.2).bind (CD.after h q) else none

namespace CD
theorem body_eq : Try.f59.body = some (.seq A (.seq (.region 1 (opsOf R1) false) (.seq (.region 2 ops2 false) .ret))) := by rfl
theorem bod7_eq : Try.f107.body = some (.seq (.region 0 (opsOf K0) false) (.block 0 (.seq (.region 3 (opsOf K3) false) (.cond (.tmp 8) (.region 4 (opsOf (pL (pR B0))) false) (pR (pR B0)))))) := by rfl
end CD
end Go.Sh.T

namespace Go.Sh.T.CD
open Go Go.Sh Go.Proofs
set_option maxRecDepth 100000

theorem wpOps_val {P : Program} {ops : Array Oper} {Q : Exit → Act → World → Prop} {i : Nat} {rest : List Nat} {o : Oper} {a : Act} {w : World} {v : Value} (hi : ops[i]? = some o) (hg : o.guard = none) (hr : (execOp a.eval o).run P w = .ok (.value v) w) (h : wpOps P ops Q rest (a.put o.dst v) w) : wpOps P ops Q (i :: rest) a w := by
  unfold wpOps
  rw [hi]
  simp only [Region.wanted, hg, if_true]
  refine .inl ?_
  unfold Oper.wp
  rw [hr, Oper.upon_value]; exact h

noncomputable def ok3 : Oper := (opsOf K3).getD 0 default
noncomputable def ok5 (i : Nat) : Oper := (opsOf K5).getD i default
theorem eqF (v : Value) (w : World) : (binOp .eql 20 (.iface 110 v) .nilIface).run Try.prog w = .ok (.bool false) w := by kernel_rfl
theorem eqN (w : World) : (binOp .eql 20 .nilIface .nilIface).run Try.prog w = .ok (.bool true) w := by kernel_rfl
theorem ta (v : Value) (w : World) : (Instr.typeAssert (.iface 110 v) 20 110 true).run Try.prog w = .ok (.tuple #[v, .bool true]) w := by kernel_rfl
theorem run3F (a : Act) (v : Value) (w : World) (h : a.eval (.tmp 6) = .iface 110 v) : (execOp a.eval ok3).run Try.prog w = .ok (.value (.bool false)) w := by
  have ho : ok3.op = .binOp .eql 20 (.tmp 6) (.const .nilIface) 20 := by rfl
  unfold execOp
  rw [ho]
  have hy : a.eval (.const .nilIface) = .nilIface := rfl
  simp only [h, hy, Sem.run_bind]
  have h1 : (eqGuard .eql 20 (.tmp 6) (.const .nilIface) (.iface 110 v) .nilIface).run Try.prog w = .ok () w := by simp [eqGuard]
  rw [h1]
  simp [eqF]
theorem run3N (a : Act) (w : World) (h : a.eval (.tmp 6) = .nilIface) : (execOp a.eval ok3).run Try.prog w = .ok (.value (.bool true)) w := by
  have ho : ok3.op = .binOp .eql 20 (.tmp 6) (.const .nilIface) 20 := by rfl
  unfold execOp
  rw [ho]
  have hy : a.eval (.const .nilIface) = .nilIface := rfl
  simp only [h, hy, Sem.run_bind]
  have h1 : (eqGuard .eql 20 (.tmp 6) (.const .nilIface) .nilIface .nilIface).run Try.prog w = .ok () w := by simp [eqGuard]
  rw [h1]
  simp [eqN]
theorem run5 (a : Act) (v : Value) (w : World) (h : a.eval (.tmp 6) = .iface 110 v) : (execOp a.eval (ok5 0)).run Try.prog w = .ok (.value (.tuple #[v, .bool true])) w := by
  have ho : (ok5 0).op = .typeAssert (.tmp 6) 20 110 true := by rfl
  unfold execOp
  rw [ho]
  simp only [h, Sem.run_bind, ta]
  rfl
theorem run5x (a : Act) (v y : Value) (w : World) (h : a.eval (.tmp 9) = .tuple #[v, y]) : (execOp a.eval (ok5 1)).run Try.prog w = .ok (.value y) w ∧ (execOp a.eval (ok5 2)).run Try.prog w = .ok (.value v) w := by
  have ho : (ok5 1).op = .extract (.tmp 9) 1 := by rfl
  have ho2 : (ok5 2).op = .extract (.tmp 9) 0 := by rfl
  unfold execOp
  rw [ho, ho2]
  simp only [h]
  exact ⟨rfl, rfl⟩

noncomputable def ok0 : Oper := (opsOf K0).getD 0 default
noncomputable def ok4 : Oper := (opsOf (pL (pR B0))).getD 0 default
theorem run0 (a : Act) (w : World) : (execOp a.eval ok0).run Try.prog w = .ok .recover w := by
  have ho : ok0.op = .call { callee := .builtin .recover, args := #[], argTypes := #[] } := by rfl
  unfold execOp
  rw [ho]
  rfl
theorem run4 (a : Act) (w : World) : (execOp a.eval ok4).run Try.prog w = .ok (.value (a.eval (.tmp 6))) w := by
  have ho : ok4.op = .assign (.tmp 6) := by rfl
  unfold execOp
  rw [ho]
  rfl
theorem res107 (tmps : Array Value) (w : World) : (results Try.f107 tmps).run Try.prog w = .ok (.tuple #[]) w := by
  unfold results
  rw [show Try.f107.results = #[] from rfl]
  simp

/-- The recovering region: nothing panics; a panic. -/
theorem wpS_recN {P : Program} {id : Nat} {ops : Array Oper} {o : Oper} {Q : Exit → Act → List Frame → World → Prop} {a : Act} {cs : List Frame} {w : World} (h1 : ops.size = 1) (h0 : ops[0]? = some o) (hg : o.guard = none) (hr : (execOp a.eval o).run P w = .ok .recover w) (hn : recoverD cs = none)
    (h : Q .normal (a.put o.dst .nilIface) cs w) : (Code.region id ops false).wpS P Q a cs w := by
  apply wpS_region
  rw [h1, show List.range 1 = [0] from rfl]
  unfold wpOpsS
  rw [h0]
  simp only [Region.wanted, hg, if_true]
  rw [hr]
  simp only [hn]
  exact h
theorem wpS_recS {P : Program} {id : Nat} {ops : Array Oper} {o : Oper} {Q : Exit → Act → List Frame → World → Prop} {a : Act} {cs cs' : List Frame} {v : Value} {w : World} (h1 : ops.size = 1) (h0 : ops[0]? = some o) (hg : o.guard = none) (hr : (execOp a.eval o).run P w = .ok .recover w) (hn : recoverD cs = some (v, cs'))
    (h : Q .normal (a.put o.dst v) cs' w) : (Code.region id ops false).wpS P Q a cs w := by
  apply wpS_region
  rw [h1, show List.range 1 = [0] from rfl]
  unfold wpOpsS
  rw [h0]
  simp only [Region.wanted, hg, if_true]
  rw [hr]
  simp only [hn]
  exact h

theorem idle (p q r : Value) (w : World) : CallsD Try.prog 107 #[p, q, r] .returning w fun e u' w' => (∃ v, e = .returned v) ∧ u' = .returning ∧ w' = w := by
  refine callsD_of_wpS Try.func107 bod7_eq fun c₀ cs hu => ?_
  have hrec : recoverD (c₀ :: cs) = none := by simp [recoverD, hu]
  refine wpS_seq (wpS_recN (o := ok0) rfl (by rfl) (by rfl) (run0 _ _) hrec ?_)
  show (Code.block 0 _).wpS _ _ _ _ _
  refine wpS_of_wp (wp_block (wp_seq (wp_region ?_)))
  rw [show List.range (opsOf K3).size = [0] from rfl]
  refine wpOps_val (o := ok3) (by rfl) (by rfl) (run3N _ w (by kernel_rfl)) ?_
  show (Code.cond _ _ _).wp _ _ _ _
  refine wp_cond_true (by kernel_rfl) (wp_region ?_)
  rw [show List.range (opsOf (pL (pR B0))).size = [0] from rfl]
  refine wpOps_val (o := ok4) (by rfl) (by rfl) (run4 _ w) ?_
  refine ⟨rfl, .returning, ?_, .tuple #[], res107 _ w, ⟨_, rfl⟩, rfl, rfl⟩
  rw [← hu]

theorem catching {d : Nat} {G : Gh} {w : World} {arr : Array Value} {cs : List AV} {i j k : Nat} {p q r : Value} {h3 h4 : Heap} {l : List (Nat × Slot)} (hp : RepA G.S w G.μ (.hp i 0) p) (hq : RepA G.S w G.μ (.hp j 0) q) (hr : RepA G.S w G.μ (.hp k 0) r)
    (ha : RepA G.S w G.μ (.agg cs) (.agg arr)) (hh : RepHeap G w h3) (hw : Within G w) (hT : evC E0 H107 Try.f107.ntmps noCall 0 T 0 { s := lkS [(0, hpS i), (1, hpS j), (2, hpS k), (11, .c (.v (.agg cs)))], h := h3 } (kL []) kN = some (l, h4)) :
    CallsD Try.prog 107 #[p, q, r] (.panicking [{ v := .iface 110 (.agg arr), recovered := false }]) w fun e u' w' => (∃ v, e = .returned v) ∧ u' = .panicking [{ v := .iface 110 (.agg arr), recovered := true }] ∧ ∃ G', Fr d G w G' w' ∧ RepHeap G' w' h4 ∧ Within G' w' := by
  refine callsD_of_wpS Try.func107 bod7_eq fun c₀ fs hu => ?_
  have hrec : recoverD (c₀ :: fs) = some (.iface 110 (.agg arr), { c₀ with mode := .panicking [{ v := .iface 110 (.agg arr), recovered := true }] } :: fs) := by simp [recoverD, hu]
  refine wpS_seq (wpS_recS (o := ok0) rfl (by rfl) (by rfl) (run0 _ _) hrec ?_)
  show (Code.block 0 _).wpS _ _ _ _ _
  refine wpS_of_wp (wp_block (wp_seq (wp_region ?_)))
  rw [show List.range (opsOf K3).size = [0] from rfl]
  refine wpOps_val (o := ok3) (by rfl) (by rfl) (run3F _ (.agg arr) w (by kernel_rfl)) ?_
  show (Code.cond _ _ _).wp _ _ _ _
  refine wp_cond_false (by kernel_rfl) ?_
  show (Code.seq (.region 5 (opsOf K5) false) (.cond (.tmp 10) T _)).wp _ _ _ _
  refine wp_seq (wp_region ?_)
  rw [show List.range (opsOf K5).size = [0, 1, 2] from rfl]
  refine wpOps_val (o := ok5 0) (by rfl) (by rfl) (run5 _ (.agg arr) w (by kernel_rfl)) ?_
  refine wpOps_val (o := ok5 1) (by rfl) (by rfl) (run5x _ (.agg arr) (.bool true) w (by kernel_rfl)).1 ?_
  refine wpOps_val (o := ok5 2) (by rfl) (by rfl) (run5x _ (.agg arr) (.bool true) w (by kernel_rfl)).2 ?_
  show (Code.cond _ _ _).wp _ _ _ _
  refine wp_cond_true (by kernel_rfl) ?_
  generalize hact : Act.put _ (ok5 2).dst _ = act
  have htm : act.tmps = #[p, q, r, undef, undef, undef, .iface 110 (.agg arr), undef, .bool false, .tuple #[.agg arr, .bool true], .bool true, .agg arr, undef, undef, undef] := by rw [← hact]; kernel_rfl
  have hdf : act.defers = [] := by rw [← hact]; kernel_rfl
  have hat : AtSt d Try.f107.ntmps G w { s := lkS [(0, hpS i), (1, hpS j), (2, hpS k), (11, .c (.v (.agg cs)))], h := h3 } act w := by
    refine ⟨G, ⟨fun x => ?_, fun u t off hu => ?_, hh, hw⟩, by rw [htm]; rfl, Fr.refl _ _ _⟩
    · rw [htm]
      rcases lkS_spec [(0, hpS i), (1, hpS j), (2, hpS k), (11, Slot.c (.v (.agg cs)))] x with e | e
      · show RepSlot _ _ _ _ (lkS _ _) _
        rw [e]; trivial
      · show RepSlot _ _ _ _ (lkS _ _) _
        have e' := e
        simp only [List.mem_cons, Prod.mk.injEq, List.not_mem_nil, or_false] at e'
        rcases e' with ⟨rfl, h2⟩ | ⟨rfl, h2⟩ | ⟨rfl, h2⟩ | ⟨rfl, h2⟩
        · rw [h2]; exact hp
        · rw [h2]; exact hq
        · rw [h2]; exact hr
        · rw [h2]; exact ha
    · exfalso
      have hu : lkS [(0, hpS i), (1, hpS j), (2, hpS k), (11, Slot.c (.v (.agg cs)))] u = .path t off := hu
      rcases lkS_spec [(0, hpS i), (1, hpS j), (2, hpS k), (11, Slot.c (.v (.agg cs)))] u with e | e
      · rw [e] at hu; cases hu
      · rw [hu] at e; simp at e
  refine (wpIn_wide (n := 0)).1 (seg_keep (ro := none) (nn := 0) okE0 (noCall_ok _) [] hT hat hdf fun a' w' hat' hd' => ?_)
  obtain ⟨G', r', n', f'⟩ := hat'
  refine ⟨hd', _, rfl, .tuple #[], res107 _ w', ⟨_, rfl⟩, rfl, G', f', r'.heap, r'.within⟩

noncomputable def m0 : Oper := (opsOf R1).getD 0 default
noncomputable def m1 : Oper := (opsOf R1).getD 1 default
theorem runM0 (a : Act) (w : World) : (execOp a.eval m0).run Try.prog w = .ok (.value (.func (.func 107) #[] #[a.eval (.tmp 10), a.eval (.tmp 11), a.eval (.tmp 12)])) w := by
  have ho : m0.op = .makeFunc (.func 107) #[] #[.tmp 10, .tmp 11, .tmp 12] := by rfl
  unfold execOp
  rw [ho]
  have hmf : ∀ (fn : Fn) (first cap : Array Value) (w : World), (Instr.makeFunc fn first cap).run Try.prog w = .ok (.func fn first cap) w := fun _ _ _ _ => rfl
  simp [hmf]
theorem runM1 (a : Act) (w : World) (cap : Array Value) (h : a.eval (.tmp 13) = .func (.func 107) #[] cap) : (execOp a.eval m1).run Try.prog w = .ok (.defer { target := .fn (.func 107) cap, args := #[] }) w := by
  have ho : m1.op = .defer { callee := .value (.tmp 13), args := #[], argTypes := #[] } := by rfl
  unfold execOp
  rw [ho]
  simp [resolve, h, Deferred.ofValue]
theorem callable107 : Callable Try.prog 107 := ⟨Try.f107, Try.func107, by kernel_rfl, rfl⟩
theorem invoke107 (p q r : Value) (w : World) : (invoke (.fn (.func 107) #[p, q, r]) #[]).run Try.prog w = .ok (.enter 107 #[p, q, r]) w := by
  unfold invoke
  exact (by simp : (callFunc 107 (#[] ++ #[p, q, r])).run Try.prog w = (callFunc 107 #[p, q, r]).run Try.prog w).trans (run_callFunc (w := w) callable107 #[p, q, r])


theorem putT_none (t : Array Value) (v : Value) : putT t none v = t := rfl

theorem do_ends (call : Nat → List AV → Heap → R) (hs : SoundC Try.prog call) (args : List AV) (h : Heap) (out : Out) (h' : Heap) (e : p59 call args h = some (out, h')) : Ends Try.prog 59 args h out h' := by
  refine ⟨⟨Try.f59, Try.func59, by kernel_rfl, rfl⟩, fun d G w argv hr hh hw => ?_⟩
  unfold p59 at e
  obtain ⟨hle, e⟩ := condE e
  have hle := bleE hle
  rw [Option.bind_eq_some_iff] at e; obtain ⟨⟨lA', st2⟩, hst, e⟩ := e
  rw [Option.bind_eq_some_iff] at e; obtain ⟨sr, hsr, e⟩ := e
  unfold start at hst
  rw [Option.bind_eq_some_iff] at hst; obtain ⟨⟨lA, hA⟩, kA, hst⟩ := hst
  rw [Option.bind_eq_some_iff] at hst; obtain ⟨r2, kB, hst⟩ := hst
  cases r2 with
  | inr x => cases hst
  | inl st2' =>
  have hst := Option.some.inj hst; cases hst
  refine calls_of_wp_defers Try.func59 body_eq ((wpIn_wide (n := 0)).1 ?_)
  have hal : argv.size = args.length := by simpa using hr.length.symm
  have hat : AtSt d Try.f59.ntmps G w { s := lkS (argSlots 0 args), h := h } { tmps := argv ++ Array.replicate (Try.f59.ntmps - argv.size) undef, defers := [] } w := by
    refine ⟨G, ⟨fun i => ?_, fun u t off hu => ?_, hh, hw⟩, by rw [Array.size_append, Array.size_replicate]; omega, Fr.refl d G w⟩
    · rcases lkS_spec (argSlots 0 args) i with e | e
      · show RepSlot _ _ _ _ (lkS _ _) _
        rw [e]; trivial
      · refine argSlots_spec args 0 argv.toList hr (fun j x hj => ?_) _ e
        have hj' : j < argv.size := by simpa using (List.getElem?_eq_some_iff.1 hj).1
        rw [Nat.zero_add, Array.getD_eq_getD_getElem?, Array.getElem?_append_left hj', ← Array.getElem?_toList, hj]; rfl
    · exfalso
      have hu : lkS (argSlots 0 args) u = .path t off := hu
      have hno : ∀ (l : List AV) (k : Nat) (q : Nat × Slot), q ∈ argSlots k l → ∃ x, q.2 = .c (.v x) := by
        intro l
        induction l with
        | nil => intro k q hq; cases hq
        | cons x l ih =>
          intro k q hq
          rcases List.mem_cons.1 hq with e | e
          · exact ⟨x, by rw [e]⟩
          · exact ih _ q e
      rcases lkS_spec (argSlots 0 args) u with e | e
      · rw [e] at hu; cases hu
      · rw [hu] at e; obtain ⟨x, hx⟩ := hno _ _ _ e; cases hx
  refine wpIn_seq (seg_keep (ro := none) (nn := 0) okE0 (noCall_ok _) _ kA hat rfl fun a1 w1 hat1 hd1 => ?_)
  obtain ⟨G1, r1, n1, f1⟩ := hat1
  refine wpIn_seq (wpIn_region ?_)
  rw [show List.range (opsOf R1).size = [0, 1] from rfl, wpOpsIn_cons]
  -- the closure is made
  unfold wpOpIn
  rw [show (opsOf R1)[0]? = some m0 from by rfl]
  simp only [Region.wanted, show m0.guard = none from by rfl, if_true]
  refine wp_in none (fun c h => by rw [show m0.op = .makeFunc (.func 107) #[] #[.tmp 10, .tmp 11, .tmp 12] from by rfl] at h; cases h) ?_
  unfold Oper.wp
  rw [runM0, Oper.upon_value]
  -- it is deferred
  rw [wpOpsIn_cons]
  unfold wpOpIn
  rw [show (opsOf R1)[1]? = some m1 from by rfl]
  simp only [Region.wanted, show m1.guard = none from by rfl, if_true]
  refine ⟨fun _ _ => trivial, ?_⟩
  show m1.uponIn _ _ _ _ _ _ ((Oper.semAt none _ m1).run Try.prog w1)
  rw [Oper.semAt_none]
  have h13 : (a1.put m0.dst (.func (.func 107) #[] #[a1.eval (.tmp 10), a1.eval (.tmp 11), a1.eval (.tmp 12)])).eval (.tmp 13) = .func (.func 107) #[] #[a1.eval (.tmp 10), a1.eval (.tmp 11), a1.eval (.tmp 12)] := by
    show (a1.put (some 13) _).tmps.getD 13 undef = _
    rw [put_tmps]
    show (a1.tmps.setIfInBounds 13 _).getD 13 undef = _
    rw [getD_put _ _ _ _ (by rw [n1]; decide), if_pos rfl]
  rw [runM1 _ _ _ h13, Oper.uponIn_defer]
  generalize hD : ({ target := .fn (.func 107) #[a1.eval (.tmp 10), a1.eval (.tmp 11), a1.eval (.tmp 12)], args := #[] } : Deferred) = D at *
  generalize hact : Act.put _ m1.dst _ = a2
  have ht2 : a2.tmps = a1.tmps.setIfInBounds 13 (.func (.func 107) #[] #[a1.eval (.tmp 10), a1.eval (.tmp 11), a1.eval (.tmp 12)]) := by
    rw [← hact, put_tmps, show m1.dst = none from by rfl, putT_none]
    show (a1.put m0.dst _).tmps = _
    rw [put_tmps, show m0.dst = some 13 from by rfl]; rfl
  have hd2 : a2.defers = [D] := by
    rw [← hact, put_defers]
    show D :: (a1.put m0.dst _).defers = _
    rw [put_defers, hd1]
  have r2 : RepSt d G1 w1 { s := upd (lkS lA) 13 .dead, h := hA } a2.tmps := by
    rw [ht2]
    exact r1.next (Ext.refl _ _ _) (some 13) _ (fun _ e => by cases e; rw [n1]; decide) rfl [(13, .dead)] hA (fun _ e => by cases e; simp) (fun t' s hm => by
      simp only [List.mem_cons, Prod.mk.injEq, List.not_mem_nil, or_false] at hm
      obtain ⟨rfl, rfl⟩ := hm
      trivial) (fun _ _ _ hm => by simp at hm) (fun _ _ _ _ _ => ⟨rfl, rfl, rfl⟩) r1.heap r1.within
  have n2 : a2.tmps.size = Try.f59.ntmps := by rw [ht2]; simpa using n1
  clear hact
  show (Code.seq (.region 2 ops2 false) .ret).wpIn _ _ _ _ a2 w1
  refine wpIn_seq (wpIn_region ?_)
  rw [show List.range ops2.size = pre2.map Prod.fst ++ (7 :: (post2.map Prod.fst ++ [])) from by rfl]
  have hmem : ∀ p ∈ indexed ops2, ops2[p.1]? = some p.2 := (indexed_spec ops2).2
  refine ops_pre (ro := none) (nn := 0) (D := [D]) okE0 (noCall_ok _) (fun a3 G3 w3 r3 n3 d3 f3 => ?_) pre2 _ a2 G1 w1 (fun p hp => hmem p (List.mem_of_mem_take hp)) kB r2 n2 hd2 (Fr.refl _ _ _)
  rw [wpOpsIn_cons]
  have hstep := step_ok (ro := none) (nn := 0) (E := E0) okE0 hs (show ops2[7]? = some o7 from by rfl) n3 r3 hsr
  cases sr with
  | inl st3 =>
    unfold after at e
    have e : opsK E0 H59 Try.f59.ntmps noCall ops2 post2 st3 (finish E0 H59 Try.f59 h) kN = some (out, h') := e
    rw [opsK_bind, Option.bind_eq_some_iff] at e; obtain ⟨r4, kC, e⟩ := e
    cases r4 with
    | inr x => cases e
    | inl st4 =>
    have e : finish E0 H59 Try.f59 h st4 = some (out, h') := e
    refine hstep.1 st3 rfl _ _ fun a4 G4 w4 r4 n4 d4 f4 => ?_
    refine ops_pre (ro := none) (nn := 0) (D := [D]) okE0 (noCall_ok _) (fun a5 G5 w5 r5 n5 d5 f5 => ?_) post2 st3 a4 G4 w4 (fun p hp => hmem p (List.mem_of_mem_drop hp)) kC r4 n4 (d4.trans d3) ((f1.trans f3).trans f4)
    show Code.ret.wpIn _ _ _ _ a5 w5
    refine wpIn_ret ?_
    show Leaves Try.prog Try.f59 a5.tmps _ a5.defers .returning w5
    rw [d5, ← hD]
    refine leaves_cons (by intro h; cases h) (invoke107 _ _ _ _) ((idle _ _ _ w5).mono ?_)
    rintro e' u' w' ⟨⟨v, rfl⟩, rfl, rfl⟩
    obtain ⟨v, k1, ⟨G6, k2, k3, k4, k5⟩, k6⟩ := finish_ok okE0 hh r5 f5 e
    refine ⟨v, k1, G6, k2, k3, k4, ?_⟩
    cases out with
    | ret a => exact k5
    | own n es => exact k5
    | pan a => exact absurd rfl (k6 a)
  | inr x =>
    obtain ⟨x, h3⟩ := x
    refine (hstep.2 x h3 rfl).2 _ _ fun G4 w4 v rv rh rw' f4 => ?_
    show Leaves Try.prog Try.f59 a3.tmps _ a3.defers (.panicking [{ v, recovered := false }]) w4
    unfold after at e
    split at e
    · rename_i heq; cases heq
    · rename_i t cs h3' heq
      cases heq
      obtain ⟨ht, e2⟩ := condE e
      clear e
      have ht := beqE ht; subst ht
      unfold caught at e2
      rw [Option.bind_eq_some_iff] at e2; obtain ⟨i, hi, e2⟩ := e2
      rw [Option.bind_eq_some_iff] at e2; obtain ⟨j, hj, e2⟩ := e2
      rw [Option.bind_eq_some_iff] at e2; obtain ⟨k, hk, e2⟩ := e2
      rw [Option.bind_eq_some_iff] at e2; obtain ⟨i', hi', e2⟩ := e2
      rw [Option.bind_eq_some_iff] at e2; obtain ⟨j', hj', e2⟩ := e2
      rw [Option.bind_eq_some_iff] at e2; obtain ⟨k', hk', e2⟩ := e2
      rw [evC_bind, Option.bind_eq_some_iff] at e2; obtain ⟨rT, kT', e2⟩ := e2
      rcases rT with ⟨ex, stT⟩ | pT
      · cases ex with
        | exit i => cases e2
        | ret => cases e2
        | normal =>
        obtain ⟨h4, hh4⟩ : ∃ h4, h4 = stT.h := ⟨_, rfl⟩
        have e2 : finish E0 H59 Try.f59 h { s := lkS [(10, hpS i'), (11, hpS j'), (12, hpS k')], h := stT.h } = some (out, h') := e2
        have kT : evC E0 H107 Try.f107.ntmps noCall 0 T 0 { s := lkS [(0, hpS i), (1, hpS j), (2, hpS k), (11, .c (.v (.agg cs)))], h := h3 } (kL []) kN = some ([], h4) := by rw [evC_bind, kT', hh4]; rfl
        rw [← hh4] at e2
        cases rv with
        | ifc rv =>
        cases rv with
        | agg rv =>
        have f14 : Fr d G1 w1 G4 w4 := f3.trans f4
        have s1 := fun (i : Nat) (x : AV) (hx : lkS lA i = .c (.v x)) => by
          have := r1.slot i
          rw [show ({ s := lkS lA, h := hA } : St).s i = .c (.v x) from hx] at this
          exact (RepA.mono f14.ext (show RepA _ _ _ x _ from this))
        have s3 := fun (i : Nat) (x : AV) (hx : st2.s i = .c (.v x)) => by
          have := r3.slot i
          rw [hx] at this
          exact (RepA.mono f4.ext (show RepA _ _ _ x _ from this))
        rw [d3, ← hD]
        refine leaves_cons (by intro h; cases h) (invoke107 _ _ _ _) ((catching (d := d) (s1 10 _ (hpOf_eq hi)) (s1 11 _ (hpOf_eq hj)) (s1 12 _ (hpOf_eq hk)) (.agg rv) rh rw' kT).mono ?_)
        rintro e' u' w' ⟨⟨v, rfl⟩, rfl, G5, f5, rh5, rw5⟩
        have r5 : RepSt d G5 w' { s := lkS [(10, hpS i'), (11, hpS j'), (12, hpS k')], h := h4 } a3.tmps := by
          refine ⟨fun x => ?_, fun u t off hu => ?_, rh5, rw5⟩
          · rcases lkS_spec [(10, hpS i'), (11, hpS j'), (12, hpS k')] x with e | e
            · show RepSlot _ _ _ _ (lkS _ _) _
              rw [e]; trivial
            · show RepSlot _ _ _ _ (lkS _ _) _
              have e' := e
              simp only [List.mem_cons, Prod.mk.injEq, List.not_mem_nil, or_false] at e'
              rcases e' with ⟨rfl, h2⟩ | ⟨rfl, h2⟩ | ⟨rfl, h2⟩
              · rw [h2]; exact RepA.mono f5.ext (s3 10 _ (hpOf_eq hi'))
              · rw [h2]; exact RepA.mono f5.ext (s3 11 _ (hpOf_eq hj'))
              · rw [h2]; exact RepA.mono f5.ext (s3 12 _ (hpOf_eq hk'))
          · exfalso
            have hu : lkS [(10, hpS i'), (11, hpS j'), (12, hpS k')] u = .path t off := hu
            rcases lkS_spec [(10, hpS i'), (11, hpS j'), (12, hpS k')] u with e | e
            · rw [e] at hu; cases hu
            · rw [hu] at e; simp at e
        obtain ⟨v, k1, ⟨G6, k2, k3, k4, k5⟩, k6⟩ := finish_ok okE0 hh r5 ((f1.trans f14).trans f5) e2
        refine ⟨v, k1, G6, k2, k3, k4, ?_⟩
        cases out with
        | ret a => exact k5
        | own n es => exact k5
        | pan a => exact absurd rfl (k6 a)
      · cases e2
    · cases e

theorem p59_C : PrimC p59 := by
  refine ⟨fun c c' hc args h r e => ?_, fun c c' hc hl args h r e => ?_⟩
  · unfold p59 at e ⊢
    obtain ⟨hle, e⟩ := condE e
    rw [hle, cond_true]
    rw [Option.bind_eq_some_iff] at e ⊢; obtain ⟨q, hq, e⟩ := e
    refine ⟨q, hq, ?_⟩
    rw [Option.bind_eq_some_iff] at e ⊢; obtain ⟨sr, hsr, e⟩ := e
    exact ⟨sr, step_mono hc hsr, e⟩
  · unfold p59 at e
    obtain ⟨hle, e⟩ := condE e
    rw [Option.bind_eq_some_iff] at e; obtain ⟨q, hq, e⟩ := e
    rw [Option.bind_eq_some_iff] at e; obtain ⟨sr, hsr, e⟩ := e
    have hup : ∀ {k k' : Nat}, k ≤ k' → Le (c k) (c k') := by
      intro k k' hk
      induction hk with
      | refl => exact fun _ _ _ _ h => h
      | step _ ih => exact fun f a h r e => hc _ f a h r (ih f a h r e)
    obtain ⟨k, hk⟩ := step_lim ⟨fun _ _ h => hup h, hl⟩ hsr
    refine ⟨k, ?_⟩
    unfold p59
    rw [hle, cond_true, hq, Option.bind_some, hk, Option.bind_some]; exact e

def zvC : List Cell := [.v (.lit (.int .i64 0)), .v (.lit (.int .i64 0)), .v (.lit (.int .i64 0)), .v (.lit (.bool false)), .v (.lit (.string ByteArray.empty)), .v (.lit (.string ByteArray.empty)), .v (.lit (.int .i64 0)), .own 5 [], .own 1 [], .own 10 []]
def zvA : List AV := [.lit (.int .i64 0), .lit (.int .i64 0), .lit (.int .i64 0), .lit (.bool false), .lit (.string ByteArray.empty), .lit (.string ByteArray.empty), .lit (.int .i64 0), .sl 5 [], .sl 1 [], .sl 10 []]
abbrev labC : List Cell := [.v (.lit (.string ByteArray.empty)), .v (.lit (.int .i64 0))]
abbrev H1 (h : Heap) : Heap := h ++ ([zvC] : Heap)
abbrev H2 (h : Heap) : Heap := H1 h ++ ([labC] : Heap)
abbrev H3 (h : Heap) : Heap := H2 h ++ ([[.v (.lit (.bool false))]] : Heap)
abbrev H4 (h : Heap) (es : List (List AV)) : Heap := H3 h ++ ([[.v (.sl 12 es)]] : Heap)
section
variable (F : Nat → List AV → Heap → R) (h h5 : Heap) (es : List (List AV)) (v0 v1 v2 v3 v4 v5 v6 v7 v8 v9 a0 a1 a2 a3 a4 b0 b1 b2 b3 b4 w0 w1 w2 w3 w4 w5 w6 w7 w8 w9 s n : AV)
theorem kF : p59 F [.sl 12 es, .agg [v0, v1, v2, v3, v4, v5, v6, v7, v8, v9], .agg [a0, a1, a2, a3, a4], .agg [b0, b1, b2, b3, b4], .agg [s, n]] h = p59 (fun _ _ _ => F 108 [.hp (H3 h).length 0, .agg [v0, v1, v2, v3, v4, v5, v6, v7, v8, v9], .agg [a0, a1, a2, a3, a4], .agg [b0, b1, b2, b3, b4], .agg [s, n]] (H4 h es)) [.sl 12 es, .agg [v0, v1, v2, v3, v4, v5, v6, v7, v8, v9], .agg [a0, a1, a2, a3, a4], .agg [b0, b1, b2, b3, b4], .agg [s, n]] h := by kernel_rfl
theorem kR : p59 (fun _ _ _ => some (.ret (.agg [w0, w1, w2, w3, w4, w5, w6, w7, w8, w9]), h5)) [.sl 12 es, .agg [v0, v1, v2, v3, v4, v5, v6, v7, v8, v9], .agg [a0, a1, a2, a3, a4], .agg [b0, b1, b2, b3, b4], .agg [s, n]] h = (hstore h5 h.length 0 [.v w0, .v w1, .v w2, .v w3, .v w4, .v w5, .v w6, .v w7, .v w8, .v w9]).bind fun h6 => (hstore h6 (H1 h).length 0 labC).bind fun h7 => (hstore h7 (H2 h).length 0 [.v (.lit (.bool true))]).bind fun h8 =>
   ((hpart true 10 0 h.length h8).bind fun x => ((hpart true 2 0 (H1 h).length h8).bind fun y => ((hpart false 1 0 (H2 h).length h8).bind fun z => some [z]).bind fun l => some (y :: l)).bind fun l => some (x :: l)).bind fun rs => trunc H59 h (.ret (.tup rs)) h8 := by kernel_rfl
theorem kP (t m : AV) : p59 (fun _ _ _ => some (.pan (.ifc 110 (.agg [t, m])), h5)) [.sl 12 es, .agg [v0, v1, v2, v3, v4, v5, v6, v7, v8, v9], .agg [a0, a1, a2, a3, a4], .agg [b0, b1, b2, b3, b4], .agg [s, n]] h = (hstore h5 h.length 0 zvC).bind fun h6 => (hstore h6 (H1 h).length 0 [.v t, .v m]).bind fun h7 => (hstore h7 (H2 h).length 0 [.v (.lit (.bool false))]).bind fun h8 =>
   ((hpart true 10 0 h.length h8).bind fun x => ((hpart true 2 0 (H1 h).length h8).bind fun y => ((hpart false 1 0 (H2 h).length h8).bind fun z => some [z]).bind fun l => some (y :: l)).bind fun l => some (x :: l)).bind fun rs => trunc H59 h (.ret (.tup rs)) h8 := by kernel_rfl
end
end Go.Sh.T.CD
