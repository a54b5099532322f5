/- TgA: part of the proof: a shadow of the machine that is proved sound, and what the functions of this seat compute. Conditions: none. -/
import Derived.Test.YtbmgmgeliokalaaShB
import Derived.IntWalk
import Derived.Test.YtbmgmgeliokalaaProg
import Derived.Test.YtbmgmgeliokalaaShC
set_option linter.unusedSimpArgs false
/- Types as plain data: what the shadow's cells of a type are. -/
namespace Go.Sh.T
set_option linter.unusedVariables false
set_option linter.unusedSimpArgs false
open Go Go.Sh

structure Ty where
  k : Int
  n : Int
  name : ByteArray
  labels : List ByteArray
  args : List Ty

def strC (s : ByteArray) : List AV := [.lit (.string s)]

mutual
def Ty.cells : Ty → List AV
  | ⟨k, n, s, ls, xs⟩ => [.lit (.int .i64 k), .lit (.int .i64 n), .lit (.string s), .sl 1 (ls.map strC), .sl 5 (Ty.cellsL xs)]
def Ty.cellsL : List Ty → List (List AV)
  | [] => []
  | t :: r => t.cells :: Ty.cellsL r
end

theorem Ty.cellsL_map : ∀ l : List Ty, Ty.cellsL l = l.map Ty.cells
  | [] => rfl
  | t :: r => by rw [Ty.cellsL, Ty.cellsL_map r]; rfl

theorem Ty.cells_eq (t : Ty) : t.cells = [.lit (.int .i64 t.k), .lit (.int .i64 t.n), .lit (.string t.name), .sl 1 (t.labels.map strC), .sl 5 (t.args.map Ty.cells)] := by
  cases t; rw [Ty.cells, Ty.cellsL_map]

@[simp] theorem Ty.cells_len (t : Ty) : t.cells.length = 5 := by rw [Ty.cells_eq]; rfl
@[simp] theorem Ty.c0 (t : Ty) : t.cells.getD 0 .dead = .lit (.int .i64 t.k) := by rw [Ty.cells_eq]; rfl
@[simp] theorem Ty.c1 (t : Ty) : t.cells.getD 1 .dead = .lit (.int .i64 t.n) := by rw [Ty.cells_eq]; rfl
@[simp] theorem Ty.c2 (t : Ty) : t.cells.getD 2 .dead = .lit (.string t.name) := by rw [Ty.cells_eq]; rfl
@[simp] theorem Ty.c3 (t : Ty) : t.cells.getD 3 .dead = .sl 1 (t.labels.map strC) := by rw [Ty.cells_eq]; rfl
@[simp] theorem Ty.c4 (t : Ty) : t.cells.getD 4 .dead = .sl 5 (t.args.map Ty.cells) := by rw [Ty.cells_eq]; rfl
theorem Ty.fold (k n : Int) (s : ByteArray) (ls : List ByteArray) (xs : List Ty) : [AV.lit (.int .i64 k), .lit (.int .i64 n), .lit (.string s), .sl 1 (ls.map strC), .sl 5 (xs.map Ty.cells)] = (Ty.mk k n s ls xs).cells := by rw [Ty.cells_eq]

theorem partA_full {n : Nat} {cs : List AV} (h : cs.length = n) : partA true n 0 cs = some (.agg cs) := by
  unfold partA
  subst h
  rw [Nat.zero_add, show Nat.ble cs.length cs.length = true from by simp, cond_true, cond_true, List.drop_zero, List.take_length]
theorem bind_some' {α β : Type} (a : α) (f : α → Option β) : (some a).bind f = f a := (Eq.refl _).trans rfl
theorem onOut_ret {ρ : Type} (a : AV) (h : Heap) (k1 : AV → Heap → Option ρ) (k2 : Nat → List (List AV) → Heap → Option ρ) (k3 : AV → Heap → Option ρ) : onOut (some (.ret a, h)) k1 k2 k3 = k1 a h := (Eq.refl _).trans rfl
theorem bin_int {E : Env} (op : BinOp) (T : TypeId) (k : IntKind) (x y : Int) : binAV E op T (.lit (.int k x)) (.lit (.int k y)) = intBin op k x y := by simp [binAV]
theorem indexA_map {α : Type} (l : List α) (f : α → List AV) (m : Nat) (i : Nat) (h : i < l.length) : indexA m (.sl m (l.map f)) (.lit (.int .i64 (i : Int))) = some (f l[i]) := by
  simp [indexA, slOf, intOf, h]

mutual
def Ty.nodes : Ty → Int
  | ⟨_, _, _, _, xs⟩ => Ty.nodesL 1 xs
def Ty.nodesL : Int → List Ty → Int
  | acc, [] => acc
  | acc, t :: r => Ty.nodesL (IntKind.i64.wrap (acc + t.nodes)) r
end

inductive Ty.Ok : Ty → Prop
  | mk {t : Ty} (hk : (Lit.int .i64 t.k).wf = true) (hn : (Lit.int .i64 t.n).wf = true) (hs : t.name.size ≤ maxLen) (hl : t.labels.length ≤ maxLen) (hls : ∀ s ∈ t.labels, s.size ≤ maxLen) (ha : t.args.length ≤ maxLen) (has : ∀ a ∈ t.args, a.Ok) : t.Ok

theorem Ty.Ok.len {t : Ty} (h : t.Ok) : t.args.length ≤ 9223372036854775807 := by cases h with | mk _ _ _ _ _ ha _ => exact ha
theorem Ty.Ok.arg {t : Ty} (h : t.Ok) {a : Ty} (ha : a ∈ t.args) : a.Ok := by cases h with | mk _ _ _ _ _ _ has => exact has a ha

theorem inc {i : Nat} (h : i < 9223372036854775807) : intBin .add .i64 (i : Int) 1 = some (.lit (.int .i64 ((i + 1 : Nat) : Int))) := by
  simp only [intBin]
  rw [IntWalk.i64_in _ (by omega)]
  simp

theorem Ty.size_arg {t : Ty} {i : Nat} (hi : i < t.args.length) : SizeOf.sizeOf t.args[i] < SizeOf.sizeOf t := by
  have := List.sizeOf_lt_of_mem (List.getElem_mem hi)
  cases t with
  | mk k n s ls xs => simp only [Ty.mk.sizeOf_spec] at *; omega

theorem nodesL_step {acc : Int} {l : List Ty} {i : Nat} (hi : i < l.length) : Ty.nodesL acc (l.drop i) = Ty.nodesL (IntKind.i64.wrap (acc + (l[i]).nodes)) (l.drop (i + 1)) := by
  rw [List.drop_eq_getElem_cons hi, Ty.nodesL]


mutual
def Ty.has (k : Int) : Ty → Bool
  | ⟨k', _, _, _, xs⟩ => k' == k || Ty.hasL k xs
def Ty.hasL (k : Int) : List Ty → Bool
  | [] => false
  | t :: r => t.has k || Ty.hasL k r
end
theorem Ty.has_eq (k : Int) (t : Ty) : t.has k = (t.k == k || Ty.hasL k t.args) := by cases t; rw [Ty.has]

theorem Ty.refold (t : Ty) : [t.cells.getD 0 .dead, t.cells.getD 1 .dead, t.cells.getD 2 .dead, t.cells.getD 3 .dead, t.cells.getD 4 .dead] = t.cells := by
  rw [Ty.cells_eq]; rfl

mutual
def Ty.pre : Ty → List Ty
  | ⟨k, n, s, ls, xs⟩ => ⟨k, n, s, ls, xs⟩ :: Ty.preL xs
def Ty.preL : List Ty → List Ty
  | [] => []
  | t :: r => t.pre ++ Ty.preL r
end
theorem Ty.pre_eq (t : Ty) : t.pre = t :: Ty.preL t.args := by cases t; rw [Ty.pre]
theorem Ty.preL_cons (t : Ty) (r : List Ty) : Ty.preL (t :: r) = t.pre ++ Ty.preL r := by rw [Ty.preL]
mutual
theorem Ty.has_pre (k : Int) : ∀ t : Ty, t.has k = t.pre.any (fun x => x.k == k)
  | ⟨k', n, s, ls, xs⟩ => by rw [Ty.has, Ty.pre, List.any_cons, Ty.hasL_pre k xs]
theorem Ty.hasL_pre (k : Int) : ∀ l : List Ty, Ty.hasL k l = (Ty.preL l).any (fun x => x.k == k)
  | [] => by rw [Ty.hasL, Ty.preL]; rfl
  | t :: r => by rw [Ty.hasL, Ty.preL, List.any_append, Ty.has_pre k t, Ty.hasL_pre k r]
end

mutual
def Ty.small : Ty → Bool
  | ⟨_, _, _, _, xs⟩ => Nat.ble xs.length 9223372036854775807 && Ty.smallL xs
def Ty.smallL : List Ty → Bool
  | [] => true
  | t :: r => t.small && Ty.smallL r
end
mutual
theorem Ty.ok_small : ∀ t : Ty, t.Ok → t.small = true
  | ⟨k, n, s, ls, xs⟩, h => by
    rw [Ty.small, Bool.and_eq_true]
    exact ⟨by rw [Nat.ble_eq]; exact h.len, Ty.ok_smallL xs fun a ha => h.arg ha⟩
theorem Ty.ok_smallL : ∀ l : List Ty, (∀ a ∈ l, a.Ok) → Ty.smallL l = true
  | [], _ => by rw [Ty.smallL]
  | t :: r, h => by
    rw [Ty.smallL, Bool.and_eq_true]
    exact ⟨Ty.ok_small t (h t List.mem_cons_self), Ty.ok_smallL r fun a ha => h a (List.mem_cons_of_mem _ ha)⟩
end

/- reading a type back -/
def decS : List AV → Option ByteArray
  | [.lit (.string s)] => some s
  | _ => none
def decSs : List (List AV) → Option (List ByteArray)
  | [] => some []
  | x :: r => (decS x).bind fun s => (decSs r).bind fun l => some (s :: l)
mutual
def decA : AV → Option (List Ty)
  | .sl 5 es => decE es
  | _ => none
def decC : List AV → Option Ty
  | [] => none
  | a :: r => match a, r with
    | .lit (.int .i64 k), [.lit (.int .i64 n), .lit (.string s), .sl 1 ls, b] => (decSs ls).bind fun l => (decA b).bind fun xs => some ⟨k, n, s, l, xs⟩
    | _, _ => none
def decE : List (List AV) → Option (List Ty)
  | [] => some []
  | c :: r => (decC c).bind fun t => (decE r).bind fun l => some (t :: l)
end
theorem decS_ok : ∀ {x : List AV} {s : ByteArray}, decS x = some s → x = strC s := by
  intro x s h
  unfold decS at h
  split at h
  · have h := Option.some.inj h; subst h; rfl
  · cases h
theorem decSs_ok : ∀ {l : List (List AV)} {m : List ByteArray}, decSs l = some m → l = m.map strC
  | [], m, h => by cases h; rfl
  | x :: r, m, h => by
    unfold decSs at h
    rw [Option.bind_eq_some_iff] at h; obtain ⟨s, hs, h⟩ := h
    rw [Option.bind_eq_some_iff] at h; obtain ⟨l, hl, h⟩ := h
    have h := Option.some.inj h; subst h
    rw [decS_ok hs, decSs_ok hl]; rfl
mutual
theorem decA_ok : ∀ {a : AV} {l : List Ty}, decA a = some l → a = .sl 5 (l.map Ty.cells)
  | .sl n es, l, h => by
    unfold decA at h
    split at h
    · rename_i h1 h2; cases h2; rw [decE_ok h]
    · cases h
  | .lit _, l, h => by unfold decA at h; cases h
  | .agg _, l, h => by unfold decA at h; cases h
  | .tup _, l, h => by unfold decA at h; cases h
  | .hp _ _, l, h => by unfold decA at h; cases h
  | .ro _, l, h => by unfold decA at h; cases h
  | .fn _ _ _, l, h => by unfold decA at h; cases h
  | .ifc _ _, l, h => by unfold decA at h; cases h
  | .dead, l, h => by unfold decA at h; cases h
theorem decC_ok : ∀ {c : List AV} {t : Ty}, decC c = some t → c = t.cells
  | [], t, h => by unfold decC at h; cases h
  | a :: r, t, h => by
    unfold decC at h
    split at h
    · rename_i k n s ls b
      rw [Option.bind_eq_some_iff] at h; obtain ⟨l, hl, h⟩ := h
      rw [Option.bind_eq_some_iff] at h; obtain ⟨xs, hx, h⟩ := h
      have h := Option.some.inj h; subst h
      rw [Ty.cells_eq, decSs_ok hl, decA_ok hx]
    · cases h
theorem decE_ok : ∀ {es : List (List AV)} {l : List Ty}, decE es = some l → es = l.map Ty.cells
  | [], l, h => by unfold decE at h; cases h; rfl
  | c :: r, l, h => by
    unfold decE at h
    rw [Option.bind_eq_some_iff] at h; obtain ⟨t, ht, h⟩ := h
    rw [Option.bind_eq_some_iff] at h; obtain ⟨m, hm, h⟩ := h
    have h := Option.some.inj h; subst h
    rw [decC_ok ht, decE_ok hm]; rfl
end
theorem decSs_map : ∀ l : List ByteArray, decSs (l.map strC) = some l
  | [] => rfl
  | s :: r => by
    rw [List.map_cons, decSs, decSs_map r]; rfl
mutual
theorem decC_cells : ∀ t : Ty, decC t.cells = some t
  | ⟨k, n, s, ls, xs⟩ => by
    rw [Ty.cells, decC, decSs_map, decA, decE_cells xs]; rfl
theorem decE_cells : ∀ l : List Ty, decE (Ty.cellsL l) = some l
  | [] => by rw [Ty.cellsL, decE]
  | t :: r => by
    rw [Ty.cellsL, decE, decC_cells t, decE_cells r]; rfl
end

/- not by computing: the kernel is to compare nothing -/
theorem condF {α : Type} (x y : α) : cond false x y = y := by
  have h : ∀ b, b = false → cond b x y = y := by intro b hb; subst hb; rfl
  exact h false rfl
theorem condT {α : Type} (x y : α) : cond true x y = x := by
  have h : ∀ b, b = true → cond b x y = x := by intro b hb; subst hb; rfl
  exact h true rfl

def add64 (x y : Int) : Int := IntKind.i64.wrap (x + y)
def sub64 (x y : Int) : Int := IntKind.i64.wrap (x - y)
theorem lssI (x y : Int) : intBin .lss .i64 x y = some (.lit (.bool (decide (x < y)))) := (Eq.refl _).trans rfl
theorem gtrI (x y : Int) : intBin .gtr .i64 x y = some (.lit (.bool (decide (x > y)))) := (Eq.refl _).trans rfl
theorem leqI (x y : Int) : intBin .leq .i64 x y = some (.lit (.bool (decide (x ≤ y)))) := (Eq.refl _).trans rfl
theorem geqI (x y : Int) : intBin .geq .i64 x y = some (.lit (.bool (decide (x ≥ y)))) := (Eq.refl _).trans rfl
theorem eqlI (x y : Int) : intBin .eql .i64 x y = some (.lit (.bool (x == y))) := (Eq.refl _).trans rfl
theorem neqI (x y : Int) : intBin .neq .i64 x y = some (.lit (.bool (x != y))) := (Eq.refl _).trans rfl
theorem addI (x y : Int) : intBin .add .i64 x y = some (.lit (.int .i64 (add64 x y))) := (Eq.refl _).trans rfl
theorem subI (x y : Int) : intBin .sub .i64 x y = some (.lit (.int .i64 (sub64 x y))) := (Eq.refl _).trans rfl
theorem incI {i : Nat} (h : i < 9223372036854775807) : add64 (i : Int) 1 = ((i + 1 : Nat) : Int) := by
  unfold add64
  rw [IntWalk.i64_in _ (by omega)]; rfl
theorem boolB (b : Bool) : boolOf (.lit (.bool b)) = some b := (Eq.refl _).trans rfl
theorem notB (b : Bool) : unAV .not (.lit (.bool b)) = some (.lit (.bool (!b))) := (Eq.refl _).trans rfl
theorem aggS (l : List AV) : aggOf (.agg l) = some l := (Eq.refl _).trans rfl
theorem tupS (l : List AV) : tupOf (.tup l) = some l := (Eq.refl _).trans rfl
theorem ltT {i n : Nat} (h : i < n) : decide ((i : Int) < (n : Int)) = true := by simpa using h
theorem ltF {i n : Nat} (h : ¬ i < n) : decide ((i : Int) < (n : Int)) = false := by simpa using h

/- the heap -/
theorem hpart_app (agg : Bool) (n off i : Nat) (h hs : Heap) : hpart agg n off (h.length + i) (h ++ hs) = hpart agg n off i hs := by
  unfold hpart
  rw [List.getElem?_append_right (by omega), Nat.add_sub_cancel_left]
theorem hpart_app0 (agg : Bool) (n off : Nat) (h hs : Heap) : hpart agg n off h.length (h ++ hs) = hpart agg n off 0 hs := hpart_app agg n off 0 h hs
theorem hstore_app (h hs : Heap) (i off : Nat) (l : List Cell) : hstore (h ++ hs) (h.length + i) off l = (hstore hs i off l).map (h ++ ·) := by
  unfold hstore
  rw [List.getElem?_append_right (by omega), Nat.add_sub_cancel_left]
  cases hs[i]? with
  | none => rfl
  | some cs =>
    simp only [Option.bind_some]
    cases splice cs off l with
    | none => rfl
    | some cs' => simp
theorem hstore_app0 (h hs : Heap) (off : Nat) (l : List Cell) : hstore (h ++ hs) h.length off l = (hstore hs 0 off l).map (h ++ ·) := hstore_app h hs 0 off l
theorem trunc_app {H : FHint} (hb : (H.hb.isEmpty || H.esc) = false) {h hs : Heap} {out : Out} (ho : out.lt h.length) : trunc H h out (h ++ hs) = some (out, h) := by
  rw [trunc_of hb ⟨ho, by simp, .inl (by simp)⟩, List.take_left]
mutual
theorem Ty.cells_lt (m : Nat) : ∀ t : Ty, ∀ a ∈ t.cells, AV.lt m a
  | ⟨k, n, s, ls, xs⟩ => by
    intro a ha
    rw [Ty.cells] at ha
    simp only [List.mem_cons, List.not_mem_nil, or_false] at ha
    rcases ha with e | e | e | e | e
    · rw [e]; exact .lit _
    · rw [e]; exact .lit _
    · rw [e]; exact .lit _
    · rw [e]; refine .sl _ fun x hx b hb => ?_
      obtain ⟨s, _, rfl⟩ := List.mem_map.1 hx
      rcases List.mem_cons.1 hb with e | e
      · rw [e]; exact .lit _
      · cases e
    · rw [e]; exact .sl _ (Ty.cellsL_lt m xs)
theorem Ty.cellsL_lt (m : Nat) : ∀ l : List Ty, ∀ x ∈ Ty.cellsL l, ∀ a ∈ x, AV.lt m a
  | [] => by intro x hx; rw [Ty.cellsL] at hx; cases hx
  | t :: r => by
    intro x hx
    rw [Ty.cellsL] at hx
    rcases List.mem_cons.1 hx with e | e
    · rw [e]; exact Ty.cells_lt m t
    · exact Ty.cellsL_lt m r x e
end
end Go.Sh.T

namespace Go.Sh.T
open Go Go.Sh Go.Proofs
set_option maxRecDepth 1000000
set_option linter.unusedVariables false
noncomputable def ti1 : TI := { size := 1, bytes := 8, desc := .func #[] #[] false, zero := [.v (.lit .nilFunc)] }
theorem tok1 : TyOk Try.prog 1 ti1 := .of (by kernel_rfl) (by kernel_rfl)
noncomputable def ti3 : TI := { size := 1, bytes := 8, desc := .int .i64, zero := [.v (.lit (.int .i64 0))] }
theorem tok3 : TyOk Try.prog 3 ti3 := .of (by kernel_rfl) (by kernel_rfl)
noncomputable def ti4 : TI := { size := 1, bytes := 1, desc := .bool, zero := [.v (.lit (.bool false))] }
theorem tok4 : TyOk Try.prog 4 ti4 := .of (by kernel_rfl) (by kernel_rfl)
noncomputable def ti5 : TI := { size := 1, bytes := 1, desc := .int .u8, zero := [.v (.lit (.int .u8 0))] }
theorem tok5 : TyOk Try.prog 5 ti5 := .of (by kernel_rfl) (by kernel_rfl)
noncomputable def ti9 : TI := { size := 1, bytes := 16, desc := .string, zero := [.v (.lit (.string ByteArray.empty))] }
theorem tok9 : TyOk Try.prog 9 ti9 := .of (by kernel_rfl) (by kernel_rfl)
noncomputable def ti21 : TI := { size := 1, bytes := 4, desc := .int .i32, zero := [.v (.lit (.int .i32 0))] }
theorem tok21 : TyOk Try.prog 21 ti21 := .of (by kernel_rfl) (by kernel_rfl)
noncomputable def ti22 : TI := { size := 1, bytes := 24, desc := .slice 9, zero := [.nil 1] }
theorem tok22 : TyOk Try.prog 22 ti22 := .of (by kernel_rfl) (by kernel_rfl)
noncomputable def ti23 : TI := { size := 1, bytes := 24, desc := .slice 25, zero := [.nil 5] }
theorem tok23 : TyOk Try.prog 23 ti23 := .of (by kernel_rfl) (by kernel_rfl)
noncomputable def ti25 : TI := { size := 5, bytes := 80, desc := .struct #[⟨"K", 3, 0, false, "", "", 0⟩, ⟨"N", 3, 1, false, "", "", 8⟩, ⟨"Name", 9, 2, false, "", "", 16⟩, ⟨"Labels", 22, 3, false, "", "", 32⟩, ⟨"Args", 23, 4, false, "", "", 56⟩], zero := [.v (.lit (.int .i64 0)), .v (.lit (.int .i64 0)), .v (.lit (.string ByteArray.empty)), .nil 1, .nil 5] }
theorem tok25 : TyOk Try.prog 25 ti25 := .of (by kernel_rfl) (by kernel_rfl)
noncomputable def ti28 : TI := { size := 1, bytes := 8, desc := .func #[25] #[4] false, zero := [.v (.lit .nilFunc)] }
theorem tok28 : TyOk Try.prog 28 ti28 := .of (by kernel_rfl) (by kernel_rfl)
noncomputable def ti32 : TI := { size := 1, bytes := 8, desc := .func #[25, 25] #[4] false, zero := [.v (.lit .nilFunc)] }
theorem tok32 : TyOk Try.prog 32 ti32 := .of (by kernel_rfl) (by kernel_rfl)
noncomputable def ti43 : TI := { size := 1, bytes := 8, desc := .func #[28] #[] false, zero := [.v (.lit .nilFunc)] }
theorem tok43 : TyOk Try.prog 43 ti43 := .of (by kernel_rfl) (by kernel_rfl)
noncomputable def ti44 : TI := { size := 1, bytes := 8, desc := .func #[28] #[] false, zero := [.v (.lit .nilFunc)] }
theorem tok44 : TyOk Try.prog 44 ti44 := .of (by kernel_rfl) (by kernel_rfl)
noncomputable def ti50 : TI := { size := 1, bytes := 24, desc := .slice 52, zero := [.nil 6] }
theorem tok50 : TyOk Try.prog 50 ti50 := .of (by kernel_rfl) (by kernel_rfl)
noncomputable def ti52 : TI := { size := 6, bytes := 96, desc := .struct #[⟨"label", 9, 0, false, "", "limbeck/ty", 0⟩, ⟨"t", 25, 1, false, "", "limbeck/ty", 16⟩], zero := [.v (.lit (.string ByteArray.empty)), .v (.lit (.int .i64 0)), .v (.lit (.int .i64 0)), .v (.lit (.string ByteArray.empty)), .nil 1, .nil 5] }
theorem tok52 : TyOk Try.prog 52 ti52 := .of (by kernel_rfl) (by kernel_rfl)
noncomputable def ti54 : TI := { size := 1, bytes := 8, desc := .func #[52, 52] #[3] false, zero := [.v (.lit .nilFunc)] }
theorem tok54 : TyOk Try.prog 54 ti54 := .of (by kernel_rfl) (by kernel_rfl)
noncomputable def fs : List (Nat × Func) := [(12, Try.f12), (7, Try.f7), (17, Try.f17), (13, Try.f13), (14, Try.f14), (51, Try.f51), (34, Try.f34), (42, Try.f42), (43, Try.f43), (22, Try.f22), (23, Try.f23), (35, Try.f35), (32, Try.f32), (9, Try.f9), (46, Try.f46), (37, Try.f37), (50, Try.f50), (36, Try.f36), (47, Try.f47), (49, Try.f49), (31, Try.f31), (33, Try.f33), (52, Try.f52), (10, Try.f10), (16, Try.f16), (60, Try.f60), (61, Try.f61), (62, Try.f62), (63, Try.f63), (78, Try.f78), (79, Try.f79), (80, Try.f80), (38, Try.f38), (19, Try.f19), (41, Try.f41), (21, Try.f21), (24, Try.f24), (26, Try.f26), (27, Try.f27), (28, Try.f28), (29, Try.f29), (30, Try.f30), (48, Try.f48), (8, Try.f8), (3, Try.f3), (4, Try.f4)]
noncomputable def gs : List (Nat × Func) := [(59, Try.f59), (15, Try.f15), (11, Try.f11), (18, Try.f18), (20, Try.f20), (25, Try.f25), (53, Try.f53), (54, Try.f54)]
noncomputable def ts : List (Nat × TI) := [(1, ti1), (3, ti3), (4, ti4), (5, ti5), (9, ti9), (21, ti21), (22, ti22), (23, ti23), (25, ti25), (28, ti28), (32, ti32), (43, ti43), (44, ti44), (50, ti50), (52, ti52), (54, ti54)]
noncomputable def hints : List (Nat × FHint) := [(12, { keep := [(0, [1, 3, 4])], base := [(6, 1), (13, 1)] }), (7, { keep := [(0, [1, 3, 4]), (2, [1, 3, 5])], base := [(6, 1), (11, 1), (16, 1), (27, 1), (36, 1), (47, 1)] }), (17, { keep := [(0, [0, 1, 5])] }), (13, { keep := [(0, [3, 7, 8, 9])], base := [(6, 1)] }), (14, { keep := [(0, [1, 3, 4])], base := [(6, 1), (13, 1)] }), (51, {}), (34, {}), (42, { keep := [(0, [0, 1, 12, 13])] }), (43, { keep := [(0, [1, 2, 15, 16, 17])] }), (22, { base := [(5, 2), (7, 3), (11, 2), (13, 3), (18, 2), (20, 3), (25, 2), (27, 3), (32, 2), (34, 3)] }), (23, { keep := [(0, [2, 3, 5])], base := [(6, 2), (8, 3), (12, 2), (14, 3), (19, 2), (21, 3), (26, 2), (28, 3), (34, 2), (37, 3), (43, 2), (49, 3), (56, 2), (61, 3)] }), (35, { keep := [(0, [0, 5, 6, 7])] }), (32, {}), (9, { base := [(7, 1), (11, 1), (19, 1), (25, 1), (30, 1), (36, 1), (41, 1), (46, 1), (52, 1), (58, 1), (61, 1), (66, 1)] }), (46, {}), (37, { keep := [(0, [0, 3])] }), (50, {}), (36, {}), (47, { keep := [(0, [0, 1, 5])] }), (49, { keep := [(0, [0, 1, 7, 8])] }), (31, { base := [(3, 1), (7, 1), (12, 1), (16, 1), (22, 1), (26, 1)] }), (33, {}), (52, { keep := [(0, [0, 4, 5])] }), (10, { keep := [(0, [1, 3])], base := [(5, 1), (11, 1), (18, 1), (22, 1), (27, 1), (31, 1), (37, 1), (41, 1), (47, 1), (51, 1), (55, 1), (59, 1), (62, 1), (66, 1), (71, 1), (74, 1), (78, 1), (83, 1), (88, 1), (91, 1), (95, 1), (99, 1), (104, 1), (107, 1)] }), (16, { keep := [(0, [1, 2, 5])], base := [(6, 2), (11, 2), (17, 2)] }), (60, { keep := [(0, [0, 3, 4]), (2, [0, 5, 6])] }), (61, {}), (62, {}), (63, {}), (78, {}), (79, {}), (80, {}), (38, { hb := [1], hp := [1], esc := true }), (19, { tr := [10], owns := [39], keep := [(0, [1, 3, 4]), (2, [1, 3, 4, 5, 6])], base := [(7, 1), (11, 1), (16, 1), (22, 1)] }), (41, { tr := [30, 34, 43, 47], keep := [(0, [0, 1, 5, 6, 7])], own := true }), (21, {}), (24, { keep := [(0, [0, 1, 5])] }), (26, { keep := [(0, [0, 1, 4, 6, 7]), (2, [0, 1, 4, 6, 7, 8])], base := [(29, 6), (40, 6), (45, 6), (59, 6), (70, 6), (75, 6), (77, 6), (88, 6), (93, 6)] }), (27, { base := [(7, 2), (11, 2), (20, 2), (26, 2)] }), (28, { base := [(7, 2), (11, 2), (20, 2), (26, 2)] }), (29, {}), (30, {}), (48, { keep := [(0, [0, 1, 7, 8])] }), (8, { base := [(43, 5)] }), (3, {}), (4, {})]
noncomputable def E0 : Env := mkEnv Try.prog fs ts [] hints []
theorem allF : AllF Try.prog fs := ⟨Try.func12, Try.func7, Try.func17, Try.func13, Try.func14, Try.func51, Try.func34, Try.func42, Try.func43, Try.func22, Try.func23, Try.func35, Try.func32, Try.func9, Try.func46, Try.func37, Try.func50, Try.func36, Try.func47, Try.func49, Try.func31, Try.func33, Try.func52, Try.func10, Try.func16, Try.func60, Try.func61, Try.func62, Try.func63, Try.func78, Try.func79, Try.func80, Try.func38, Try.func19, Try.func41, Try.func21, Try.func24, Try.func26, Try.func27, Try.func28, Try.func29, Try.func30, Try.func48, Try.func8, Try.func3, Try.func4, trivial⟩
theorem allG : AllF Try.prog gs := ⟨Try.func59, Try.func15, Try.func11, Try.func18, Try.func20, Try.func25, Try.func53, Try.func54, trivial⟩
theorem allT : AllT Try.prog ts := ⟨tok1, tok3, tok4, tok5, tok9, tok21, tok22, tok23, tok25, tok28, tok32, tok43, tok44, tok50, tok52, tok54, trivial⟩
theorem okE0 : E0.Ok := mkEnv_ok (gs := []) allF trivial allT (by kernel_rfl) rfl rfl (by kernel_rfl) (by kernel_rfl)
end Go.Sh.T

/- name.shape: a range over a string, by its shadow. -/
namespace Go.Sh.T
set_option maxRecDepth 100000
set_option linter.unusedVariables false
set_option linter.unusedSimpArgs false
open Go Go.Sh Go.Proofs

/- what is told of bytes -/
def lowB (c : Int) : Bool := bif decide (c ≥ 97) then decide (c ≤ 122) else false
def upB (c : Int) : Bool := bif decide (c ≥ 65) then decide (c ≤ 90) else false
def digB (c : Int) : Bool := bif decide (c ≥ 48) then decide (c ≤ 57) else false
def bytes (s : ByteArray) : List UInt8 := s.data.toList
theorem bytes_len (s : ByteArray) : (bytes s).length = s.size := by unfold bytes; exact Array.length_toList

namespace P59
theorem noPrims0 : PrimsOk E0 := fun f p h => by cases h
noncomputable def call0 : Nat → List AV → Heap → R := ev E0 3
theorem call0_ok : SoundC Try.prog call0 := ev_ok okE0 noPrims0 3
theorem low0 (c : Int) (h : Heap) : call0 78 [.lit (.int .i32 c)] h = some (.ret (.lit (.bool (lowB c))), h) := by
  have : call0 78 [.lit (.int .i32 c)] h = cond (decide (c ≥ 97)) (some (.ret (.lit (.bool (decide (c ≤ 122)))), h)) (some (.ret (.lit (.bool false)), h)) := by kernel_rfl
  rw [this]; unfold lowB; cases decide (c ≥ 97) <;> rfl
theorem up0 (c : Int) (h : Heap) : call0 79 [.lit (.int .i32 c)] h = some (.ret (.lit (.bool (upB c))), h) := by
  have : call0 79 [.lit (.int .i32 c)] h = cond (decide (c ≥ 65)) (some (.ret (.lit (.bool (decide (c ≤ 90)))), h)) (some (.ret (.lit (.bool false)), h)) := by kernel_rfl
  rw [this]; unfold upB; cases decide (c ≥ 65) <;> rfl
theorem dig0 (c : Int) (h : Heap) : call0 80 [.lit (.int .i32 c)] h = some (.ret (.lit (.bool (digB c))), h) := by
  have : call0 80 [.lit (.int .i32 c)] h = cond (decide (c ≥ 48)) (some (.ret (.lit (.bool (decide (c ≤ 57)))), h)) (some (.ret (.lit (.bool false)), h)) := by kernel_rfl
  rw [this]; unfold digB; cases decide (c ≥ 48) <;> rfl

def pL : Code → Code
  | .seq a _ => a
  | .block _ c => c
  | .loop c => c
  | .cond _ a _ => a
  | c => c
def pR : Code → Code
  | .seq _ b => b
  | .cond _ _ b => b
  | c => c
def opsOf : Code → Array Oper
  | .region _ ops _ => ops
  | _ => #[]
noncomputable def body : Code := Try.f59.body.getD .skip
noncomputable def R0 := pL body
noncomputable def R1 := pL (pL (pR body))
noncomputable def R2 := pL (pL (pR (pL (pR body))))
noncomputable def R3 := pL (pR (pR body))
noncomputable def t4 := pR (pR (pR body))
noncomputable def R4 := pL (pL t4)
noncomputable def lp := pL (pL (pR (pL t4)))
noncomputable def R5 := pL lp
noncomputable def b1 := pR (pR lp)
noncomputable def R14 := pL (pR t4)
noncomputable def o4 (i : Nat) : Oper := (opsOf R4).getD i default
noncomputable def o5 (i : Nat) : Oper := (opsOf R5).getD i default
abbrev S (l : List (Nat × Slot)) (h : Heap) : St := { s := lkS l, h := h }
noncomputable abbrev ev0 (L : List Nat) (c : Code) (st : St) : Option (List (Nat × Slot) × Heap) := evC E0 {} Try.f59.ntmps call0 0 c 0 st (kL L) kN
abbrev iv (i : Int) : Slot := .c (.v (.lit (.int .i64 i)))
abbrev bv (b : Bool) : Slot := .c (.v (.lit (.bool b)))
abbrev sv (s : ByteArray) : Slot := .c (.v (.lit (.string s)))
abbrev pv (k : Nat) : Slot := .c (.v (.lit (.pointer (some ⟨k, 0, none⟩))))

/-- What a round's body comes to. -/
def kS : Ex → St → Option ((AV × AV × Heap) ⊕ (AV × Heap))
  | .normal, st => ((st.s 3).av).bind fun a => ((st.s 10).av).bind fun b => some (.inl (a, b, st.h))
  | .ret, st => ((st.s 2).av).bind fun a => some (.inr (a, st.h))
  | _, _ => none
theorem b1nf (h : Heap) (x3 x10 x13 x14 : AV) : evC E0 {} Try.f59.ntmps call0 0 b1 0 (S [(3, .c (.v x3)), (10, .c (.v x10)), (11, .c (.v (.tup [.lit (.bool true), x13, x14])))] h) kS kN = (binAV E0 .eql 3 x13 (.lit (.int .i64 0))).bind fun r1 => (boolOf r1).bind fun b2 => cond b2 (onOut (call0 78 [x14] h) (fun a3 h4 => (boolOf a3).bind fun b5 => cond b5 (some (.inl (.lit (.int .i64 1), x10, h4))) ((binAV E0 .eql 3 x13 (.lit (.int .i64 0))).bind fun r6 => (boolOf r6).bind fun b7 => cond b7 (onOut (call0 79 [x14] h4) (fun a8 h9 => (boolOf a8).bind fun b10 => cond b10 (some (.inl (.lit (.int .i64 2), x10, h9))) ((binAV E0 .gtr 3 x13 (.lit (.int .i64 0))).bind fun r11 => (boolOf r11).bind fun b12 => cond b12 ((binAV E0 .neq 3 x3 (.lit (.int .i64 0))).bind fun r13 => (boolOf r13).bind fun b14 => cond b14 (onOut (call0 78 [x14] h9) (fun a15 h16 => (boolOf a15).bind fun b17 => cond b17 (some (.inl (x3, x10, h16))) (onOut (call0 80 [x14] h16) (fun a18 h19 => (boolOf a18).bind fun b20 => cond b20 (some (.inl (x3, x10, h19))) ((binAV E0 .gtr 3 x13 (.lit (.int .i64 0))).bind fun r21 => (boolOf r21).bind fun b22 => cond b22 ((binAV E0 .eql 3 x3 (.lit (.int .i64 2))).bind fun r23 => (boolOf r23).bind fun b24 => cond b24 (onOut (call0 79 [x14] h19) (fun a25 h26 => (boolOf a25).bind fun b27 => cond b27 (some (.inl (x3, x10, h26))) (some (.inr (.lit (.int .i64 0), h26)))) (fun _ _ _ => none) (fun _ _ => none)) (some (.inr (.lit (.int .i64 0), h19)))) (some (.inr (.lit (.int .i64 0), h19))))) (fun _ _ _ => none) (fun _ _ => none))) (fun _ _ _ => none) (fun _ _ => none)) ((binAV E0 .gtr 3 x13 (.lit (.int .i64 0))).bind fun r28 => (boolOf r28).bind fun b29 => cond b29 ((binAV E0 .eql 3 x3 (.lit (.int .i64 2))).bind fun r30 => (boolOf r30).bind fun b31 => cond b31 (onOut (call0 79 [x14] h9) (fun a32 h33 => (boolOf a32).bind fun b34 => cond b34 (some (.inl (x3, x10, h33))) (some (.inr (.lit (.int .i64 0), h33)))) (fun _ _ _ => none) (fun _ _ => none)) (some (.inr (.lit (.int .i64 0), h9)))) (some (.inr (.lit (.int .i64 0), h9))))) ((binAV E0 .gtr 3 x13 (.lit (.int .i64 0))).bind fun r35 => (boolOf r35).bind fun b36 => cond b36 ((binAV E0 .eql 3 x3 (.lit (.int .i64 2))).bind fun r37 => (boolOf r37).bind fun b38 => cond b38 (onOut (call0 79 [x14] h9) (fun a39 h40 => (boolOf a39).bind fun b41 => cond b41 (some (.inl (x3, x10, h40))) (some (.inr (.lit (.int .i64 0), h40)))) (fun _ _ _ => none) (fun _ _ => none)) (some (.inr (.lit (.int .i64 0), h9)))) (some (.inr (.lit (.int .i64 0), h9)))))) (fun _ _ _ => none) (fun _ _ => none)) ((binAV E0 .gtr 3 x13 (.lit (.int .i64 0))).bind fun r42 => (boolOf r42).bind fun b43 => cond b43 ((binAV E0 .neq 3 x3 (.lit (.int .i64 0))).bind fun r44 => (boolOf r44).bind fun b45 => cond b45 (onOut (call0 78 [x14] h4) (fun a46 h47 => (boolOf a46).bind fun b48 => cond b48 (some (.inl (x3, x10, h47))) (onOut (call0 80 [x14] h47) (fun a49 h50 => (boolOf a49).bind fun b51 => cond b51 (some (.inl (x3, x10, h50))) ((binAV E0 .gtr 3 x13 (.lit (.int .i64 0))).bind fun r52 => (boolOf r52).bind fun b53 => cond b53 ((binAV E0 .eql 3 x3 (.lit (.int .i64 2))).bind fun r54 => (boolOf r54).bind fun b55 => cond b55 (onOut (call0 79 [x14] h50) (fun a56 h57 => (boolOf a56).bind fun b58 => cond b58 (some (.inl (x3, x10, h57))) (some (.inr (.lit (.int .i64 0), h57)))) (fun _ _ _ => none) (fun _ _ => none)) (some (.inr (.lit (.int .i64 0), h50)))) (some (.inr (.lit (.int .i64 0), h50))))) (fun _ _ _ => none) (fun _ _ => none))) (fun _ _ _ => none) (fun _ _ => none)) ((binAV E0 .gtr 3 x13 (.lit (.int .i64 0))).bind fun r59 => (boolOf r59).bind fun b60 => cond b60 ((binAV E0 .eql 3 x3 (.lit (.int .i64 2))).bind fun r61 => (boolOf r61).bind fun b62 => cond b62 (onOut (call0 79 [x14] h4) (fun a63 h64 => (boolOf a63).bind fun b65 => cond b65 (some (.inl (x3, x10, h64))) (some (.inr (.lit (.int .i64 0), h64)))) (fun _ _ _ => none) (fun _ _ => none)) (some (.inr (.lit (.int .i64 0), h4)))) (some (.inr (.lit (.int .i64 0), h4))))) ((binAV E0 .gtr 3 x13 (.lit (.int .i64 0))).bind fun r66 => (boolOf r66).bind fun b67 => cond b67 ((binAV E0 .eql 3 x3 (.lit (.int .i64 2))).bind fun r68 => (boolOf r68).bind fun b69 => cond b69 (onOut (call0 79 [x14] h4) (fun a70 h71 => (boolOf a70).bind fun b72 => cond b72 (some (.inl (x3, x10, h71))) (some (.inr (.lit (.int .i64 0), h71)))) (fun _ _ _ => none) (fun _ _ => none)) (some (.inr (.lit (.int .i64 0), h4)))) (some (.inr (.lit (.int .i64 0), h4))))))) (fun _ _ _ => none) (fun _ _ => none)) ((binAV E0 .eql 3 x13 (.lit (.int .i64 0))).bind fun r73 => (boolOf r73).bind fun b74 => cond b74 (onOut (call0 79 [x14] h) (fun a75 h76 => (boolOf a75).bind fun b77 => cond b77 (some (.inl (.lit (.int .i64 2), x10, h76))) ((binAV E0 .gtr 3 x13 (.lit (.int .i64 0))).bind fun r78 => (boolOf r78).bind fun b79 => cond b79 ((binAV E0 .neq 3 x3 (.lit (.int .i64 0))).bind fun r80 => (boolOf r80).bind fun b81 => cond b81 (onOut (call0 78 [x14] h76) (fun a82 h83 => (boolOf a82).bind fun b84 => cond b84 (some (.inl (x3, x10, h83))) (onOut (call0 80 [x14] h83) (fun a85 h86 => (boolOf a85).bind fun b87 => cond b87 (some (.inl (x3, x10, h86))) ((binAV E0 .gtr 3 x13 (.lit (.int .i64 0))).bind fun r88 => (boolOf r88).bind fun b89 => cond b89 ((binAV E0 .eql 3 x3 (.lit (.int .i64 2))).bind fun r90 => (boolOf r90).bind fun b91 => cond b91 (onOut (call0 79 [x14] h86) (fun a92 h93 => (boolOf a92).bind fun b94 => cond b94 (some (.inl (x3, x10, h93))) (some (.inr (.lit (.int .i64 0), h93)))) (fun _ _ _ => none) (fun _ _ => none)) (some (.inr (.lit (.int .i64 0), h86)))) (some (.inr (.lit (.int .i64 0), h86))))) (fun _ _ _ => none) (fun _ _ => none))) (fun _ _ _ => none) (fun _ _ => none)) ((binAV E0 .gtr 3 x13 (.lit (.int .i64 0))).bind fun r95 => (boolOf r95).bind fun b96 => cond b96 ((binAV E0 .eql 3 x3 (.lit (.int .i64 2))).bind fun r97 => (boolOf r97).bind fun b98 => cond b98 (onOut (call0 79 [x14] h76) (fun a99 h100 => (boolOf a99).bind fun b101 => cond b101 (some (.inl (x3, x10, h100))) (some (.inr (.lit (.int .i64 0), h100)))) (fun _ _ _ => none) (fun _ _ => none)) (some (.inr (.lit (.int .i64 0), h76)))) (some (.inr (.lit (.int .i64 0), h76))))) ((binAV E0 .gtr 3 x13 (.lit (.int .i64 0))).bind fun r102 => (boolOf r102).bind fun b103 => cond b103 ((binAV E0 .eql 3 x3 (.lit (.int .i64 2))).bind fun r104 => (boolOf r104).bind fun b105 => cond b105 (onOut (call0 79 [x14] h76) (fun a106 h107 => (boolOf a106).bind fun b108 => cond b108 (some (.inl (x3, x10, h107))) (some (.inr (.lit (.int .i64 0), h107)))) (fun _ _ _ => none) (fun _ _ => none)) (some (.inr (.lit (.int .i64 0), h76)))) (some (.inr (.lit (.int .i64 0), h76)))))) (fun _ _ _ => none) (fun _ _ => none)) ((binAV E0 .gtr 3 x13 (.lit (.int .i64 0))).bind fun r109 => (boolOf r109).bind fun b110 => cond b110 ((binAV E0 .neq 3 x3 (.lit (.int .i64 0))).bind fun r111 => (boolOf r111).bind fun b112 => cond b112 (onOut (call0 78 [x14] h) (fun a113 h114 => (boolOf a113).bind fun b115 => cond b115 (some (.inl (x3, x10, h114))) (onOut (call0 80 [x14] h114) (fun a116 h117 => (boolOf a116).bind fun b118 => cond b118 (some (.inl (x3, x10, h117))) ((binAV E0 .gtr 3 x13 (.lit (.int .i64 0))).bind fun r119 => (boolOf r119).bind fun b120 => cond b120 ((binAV E0 .eql 3 x3 (.lit (.int .i64 2))).bind fun r121 => (boolOf r121).bind fun b122 => cond b122 (onOut (call0 79 [x14] h117) (fun a123 h124 => (boolOf a123).bind fun b125 => cond b125 (some (.inl (x3, x10, h124))) (some (.inr (.lit (.int .i64 0), h124)))) (fun _ _ _ => none) (fun _ _ => none)) (some (.inr (.lit (.int .i64 0), h117)))) (some (.inr (.lit (.int .i64 0), h117))))) (fun _ _ _ => none) (fun _ _ => none))) (fun _ _ _ => none) (fun _ _ => none)) ((binAV E0 .gtr 3 x13 (.lit (.int .i64 0))).bind fun r126 => (boolOf r126).bind fun b127 => cond b127 ((binAV E0 .eql 3 x3 (.lit (.int .i64 2))).bind fun r128 => (boolOf r128).bind fun b129 => cond b129 (onOut (call0 79 [x14] h) (fun a130 h131 => (boolOf a130).bind fun b132 => cond b132 (some (.inl (x3, x10, h131))) (some (.inr (.lit (.int .i64 0), h131)))) (fun _ _ _ => none) (fun _ _ => none)) (some (.inr (.lit (.int .i64 0), h)))) (some (.inr (.lit (.int .i64 0), h))))) ((binAV E0 .gtr 3 x13 (.lit (.int .i64 0))).bind fun r133 => (boolOf r133).bind fun b134 => cond b134 ((binAV E0 .eql 3 x3 (.lit (.int .i64 2))).bind fun r135 => (boolOf r135).bind fun b136 => cond b136 (onOut (call0 79 [x14] h) (fun a137 h138 => (boolOf a137).bind fun b139 => cond b139 (some (.inl (x3, x10, h138))) (some (.inr (.lit (.int .i64 0), h138)))) (fun _ _ _ => none) (fun _ _ => none)) (some (.inr (.lit (.int .i64 0), h)))) (some (.inr (.lit (.int .i64 0), h)))))) := by kernel_rfl

/-- One round, of plain values: the next kind; none: no name. -/
def stepP (z : Bool) (k c : Int) : Option Int :=
  bif z && lowB c then some 1 else bif z && upB c then some 2 else bif !z && (k != 0 && (lowB c || digB c)) then some k else bif !z && (k == 2 && upB c) then some k else none
def outP (q : Nat) (h : Heap) (r : Option Int) : (AV × AV × Heap) ⊕ (AV × Heap) := match r with
  | some k => .inl (.lit (.int .i64 k), .lit (.pointer (some ⟨q, 0, none⟩)), h)
  | none => .inr (.lit (.int .i64 0), h)

theorem body_ok (h : Heap) (k c : Int) (i q : Nat) (b : Bool) : evC E0 {} Try.f59.ntmps call0 0 b1 0 (S [(3, iv k), (10, pv q), (11, .c (.v (.tup [.lit (.bool true), .lit (.int .i64 (i : Int)), .lit (.int .i32 c)])))] h) kS kN = some (outP q h (stepP (i == 0) k c)) := by
  rw [b1nf]
  have e1 : (((i : Int) == 0)) = (i == 0) := by rw [Bool.eq_iff_iff]; simp
  have e2 : decide ((i : Int) > 0) = !(i == 0) := by rw [Bool.eq_iff_iff]; simp; omega
  simp only [bin_int, eqlI, neqI, gtrI, bind_some', boolB, low0, up0, dig0, onOut_ret, e1, e2]
  unfold stepP
  cases i == 0 <;> cases lowB c <;> cases upB c <;> cases digB c <;> cases k != 0 <;> cases k == 2 <;> rfl

section
variable (s : ByteArray) (h : Heap)
theorem e0 : ev0 [0] R0 (S [(0, sv s)] h) = some ([(0, sv s)], h) := by kernel_rfl
theorem e1 : ev0 [0, 8] R1 (S [(0, sv s)] h) = some ([(0, sv s), (8, bv (decide ((s.size : Int) > 8)))], h) := by kernel_rfl
theorem e2 (st : Nat → Slot) : ev0 [2] R2 { s := st, h := h } = some ([(2, iv 0)], h) := by kernel_rfl
theorem e3 (b : Bool) : ev0 [0, 3] R3 (S [(0, sv s), (8, bv b)] h) = some ([(0, sv s), (3, iv 0)], h) := by kernel_rfl
theorem e40 : stepK E0 {} Try.f59.ntmps call0 (opsOf R4) 0 (o4 0) (S [(0, sv s), (3, iv 0)] h) (kLs [3, 9]) kN = some ([(3, iv 0), (9, sv s)], h) := by kernel_rfl
theorem e51 (k : Int) (q : Nat) (x y : AV) : stepK E0 {} Try.f59.ntmps call0 (opsOf R5) 1 (o5 1) { s := upd (lkS [(3, iv k), (10, pv q)]) 11 (.c (.v (.tup [.lit (.bool true), x, y]))), h := h } (kLs [3, 10, 11, 12]) kN = some ([(3, iv k), (10, pv q), (11, .c (.v (.tup [.lit (.bool true), x, y]))), (12, bv true)], h) := by kernel_rfl
theorem e51f (k : Int) (q : Nat) : stepK E0 {} Try.f59.ntmps call0 (opsOf R5) 1 (o5 1) { s := upd (lkS [(3, iv k), (10, pv q)]) 11 (.c (.v (.tup [.lit (.bool false)]))), h := h } (kLs [3, 12]) kN = some ([(3, iv k), (12, bv false)], h) := by kernel_rfl
theorem e14 (k : Int) : ev0 [2] R14 (S [(3, iv k)] h) = some ([(2, iv k)], h) := by kernel_rfl
theorem fin2 (k : Int) : finish E0 {} Try.f59 h (S [(2, iv k)] h) = some (.ret (.lit (.int .i64 k)), h) := by kernel_rfl
end

/-- From a place on. -/
def goP (s : ByteArray) : Nat → Nat → Int → Int
  | 0, _, _ => 0
  | m + 1, pos, k => if h : pos < s.size then (match stepP (pos == 0) k (Utf8.decode s pos).1 with
      | some k' => goP s m (pos + (Utf8.decode s pos).2) k'
      | none => 0) else k
theorem decode_pos (s : ByteArray) (pos : Nat) : 1 ≤ (Utf8.decode s pos).2 := by
  simp only [Utf8.decode]
  repeat' split
  all_goals first | exact Nat.le_refl 1 | exact (by decide : 1 ≤ 2) | exact (by decide : 1 ≤ 3) | exact (by decide : 1 ≤ 4)

theorem decode_le (s : ByteArray) (pos : Nat) (h : pos < s.size) : pos + (Utf8.decode s pos).2 ≤ s.size := by
  simp only [Utf8.decode]
  repeat' split
  all_goals rename_i hc
  all_goals simp only [Bool.and_eq_true, decide_eq_true_eq] at *
  all_goals first | (show pos + 1 ≤ s.size; omega) | (show pos + 2 ≤ s.size; omega) | (show pos + 3 ≤ s.size; omega) | (show pos + 4 ≤ s.size; omega)

theorem slotA {d : Nat} {G : Gh} {w : World} {st : St} {a : Act} (r : RepSt d G w st a.tmps) {i : Nat} {x : AV} (h : st.s i = .c (.v x)) : RepA G.S w G.μ x (a.tmps.getD i undef) := by
  have := r.slot i
  rw [h] at this; exact this

theorem done_ok {d : Nat} {G0 : Gh} {w0 : World} {h : Heap} {a : Act} {w : World} {k : Int} (hat : AtSt d Try.f59.ntmps G0 w0 (S [(2, iv k)] h) a w) (hd : a.defers = []) : bodyPost Try.prog Try.f59 (EndOk d G0 w0 (.ret (.lit (.int .i64 k))) h) .ret a w := by
  obtain ⟨G, r, hnt, hf⟩ := hat
  obtain ⟨v, k1, ⟨G', k2, k3, k4, k5⟩, _⟩ := finish_ok (G0 := G) (w0 := w) okE0 r.heap r (Fr.refl _ _ _) (fin2 h k)
  exact ⟨hd, v, k1, G', hf.trans k2, k3, k4, k5⟩
theorem of_avs {d : Nat} {G : Gh} {w : World} {st : St} {tmps : Array Value} (r : RepSt d G w st tmps) (l : List (Nat × AV)) (hl : ∀ p ∈ l, (st.s p.1).av = some p.2) : RepSt d G w (S (l.map fun p => (p.1, .c (.v p.2))) st.h) tmps := by
  refine ⟨fun i => ?_, fun u t off hu => ?_, r.heap, r.within⟩
  · show RepSlot G w d i (lkS _ i) _
    rcases lkS_spec (l.map fun p => (p.1, Slot.c (.v p.2))) i with e | e
    · rw [e]; trivial
    · obtain ⟨p, hp, e2⟩ := List.mem_map.1 e
      have e3 := (Prod.mk.inj e2).1; have e4 := (Prod.mk.inj e2).2
      subst e3; rw [← e4]; exact (r.slot p.1).av (hl p hp)
  · have hu : lkS (l.map fun p => (p.1, Slot.c (.v p.2))) u = .path t off := hu
    rcases lkS_spec (l.map fun p => (p.1, Slot.c (.v p.2))) u with e | e
    · rw [e] at hu; cases hu
    · obtain ⟨p, hp, e2⟩ := List.mem_map.1 e
      have e4 := (Prod.mk.inj e2).2
      rw [hu] at e4; cases e4

theorem loop_ok {d q : Nat} {G0 : Gh} {w0 : World} {h : Heap} {s : ByteArray} (hq : w0.heap.size ≤ q) {r : Int} {Q : Exit → Act → World → Prop}
    (hex : ∀ a w, AtSt d Try.f59.ntmps G0 w0 (S [(3, iv r)] h) a w → a.defers = [] → Q (.exit 0) a w)
    (hret : r = 0 → ∀ a w, AtSt d Try.f59.ntmps G0 w0 (S [(2, iv 0)] h) a w → a.defers = [] → Q .ret a w) :
    ∀ (m pos : Nat) (k : Int) (a : Act) (G : Gh) (w : World), s.size < m + pos → pos ≤ s.size → goP s m pos k = r → RepSt d G w (S [(3, iv k), (10, pv q)] h) a.tmps → a.tmps.size = Try.f59.ntmps → Fr d G0 w0 G w → G.O q = .none → w.heap[q]? = some (.stringIter s pos) → a.defers = [] →
      Code.roundsIn (FF none) 0 Try.prog lp Q m a w
  | 0, pos, k, a, G, w, h1, hle, hr, rs, hn, hf, ho, hi, hd => by omega
  | m + 1, pos, k, a, G, w, h1, hle, hr, rs, hn, hf, ho, hi, hd => by
    rw [roundsIn_succ]
    refine wpIn_seq (wpIn_region ?_)
    change wpOpsIn _ _ _ (opsOf R5) _ [0, 1] _ _
    rw [wpOpsIn_cons]
    have v10 : a.tmps.getD 10 undef = .pointer (some ⟨q, 0, none⟩) := (slotA rs (i := 10) rfl).litE
    have hev : a.eval (.tmp 10) = .pointer (some ⟨q, 0, none⟩) := v10
    have hx : ∀ arr T fz, Obj.stringIter s pos ≠ .cells arr T fz := fun _ _ _ e => by cases e
    unfold goP at hr
    by_cases hp : pos < s.size
    · rw [dif_pos hp] at hr
      have hy : ∀ arr T fz, Obj.stringIter s (pos + (Utf8.decode s pos).2) ≠ .cells arr T fz := fun _ _ _ e => by cases e
      have rs1 := st_putN (y := .stringIter s (pos + (Utf8.decode s pos).2)) hi hx hy ho rs
      have f1 : Fr d G0 w0 G (w.putObj q (.stringIter s (pos + (Utf8.decode s pos).2))) := hf.putN hq hi hx hy
      refine step_value (o := o5 0) (nt := Try.f59.ntmps) (st := S _ h) (x := .tup [.lit (.bool true), .lit (.int .i64 (pos : Int)), .lit (.int .i32 ((Utf8.decode s pos).1 : Int))]) (v := .tuple #[.bool true, .int .i64 pos, .int .i32 (Utf8.decode s pos).1]) (w' := w.putObj q (.stringIter s (pos + (Utf8.decode s pos).2))) (G' := G) rfl rfl rfl (fun c hc => by cases hc) (by decide) rfl hn ?_ rs1 (.tup (.cons (.lit rfl) (.cons (.lit rfl) (.cons (.lit rfl) .nil)))) fun a1 r1 n1 d1 => ?_
      · have hnx := Lib.run_next_any_at (P := Try.prog) w q s pos (o5 0).type hi hp
        unfold execOp
        show Sem.run Try.prog (Instr.next (a.eval (.tmp 10)) true _ >>= _) w = _
        rw [hev, Sem.run_bind, hnx]
        rfl
      · rw [wpOpsIn_cons]
        refine step_keep okE0 call0_ok (H := {}) (G0 := G) (w0 := w.putObj q (.stringIter s (pos + (Utf8.decode s pos).2))) rfl [3, 10, 11, 12] (e51 h k q _ _) ⟨G, r1, n1, Fr.refl _ _ _⟩ (d1.trans hd) fun a2 w2 hat2 hd2 => ?_
        obtain ⟨G2, r2, n2, f2⟩ := hat2
        refine wpIn_seq (wpIn_cond_true (slotA r2 (i := 12) rfl).litE (wpIn_skip ?_))
        have rk := r2.keep (some [3, 10, 11])
        refine Code.wpIn_mono (fun e a3 w3 hq3 => ?_) (evC_ok (ro := none) (nn := 0) (D := []) (G0 := G2) (w0 := w2) okE0 call0_ok b1 0 _ kS a2 w2 (body_ok h k (Utf8.decode s pos).1 pos q true) ⟨G2, rk, n2, Fr.refl _ _ _⟩ hd2)
        obtain ⟨hd3, hq3⟩ := hq3
        have hq0 : q < (w.putObj q (.stringIter s (pos + (Utf8.decode s pos).2))).heap.size := by simpa using lt_of_heap hi
        have s2 := f2.same q hq0 (by rw [ho]; rfl)
        have hi2 : w2.heap[q]? = some (.stringIter s (pos + (Utf8.decode s pos).2)) := s2.1.trans (put_same (lt_of_heap hi))
        cases e with
        | normal =>
          obtain ⟨st', G3, k1, k2, k3, k4⟩ := hq3
          unfold kS at k1
          simp only at k1
          rw [Option.bind_eq_some_iff] at k1; obtain ⟨x3, hx3, k1⟩ := k1
          rw [Option.bind_eq_some_iff] at k1; obtain ⟨x10, hx10, k1⟩ := k1
          have k1 := Option.some.inj k1
          cases hs : stepP (pos == 0) k ((Utf8.decode s pos).1 : Int) with
          | none => rw [hs] at k1; cases k1
          | some k' =>
            rw [hs] at k1 hr
            simp only [outP, Sum.inl.injEq, Prod.mk.injEq] at k1
            obtain ⟨rfl, rfl, hh⟩ := k1
            have rk3 := of_avs k2 [(3, .lit (.int .i64 k')), (10, .lit (.pointer (some ⟨q, 0, none⟩)))] (fun p hp => by
              simp only [List.mem_cons, List.not_mem_nil, or_false] at hp
              rcases hp with e | e
              · rw [e]; exact hx3
              · rw [e]; exact hx10)
            rw [hh] at rk3
            have s3 := k4.same q (lt_of_heap hi2) (by rw [s2.2.2, ho]; rfl)
            have hw := decode_pos s pos
            exact loop_ok hq hex hret m _ k' a3 G3 w3 (by omega) (decode_le s pos hp) hr rk3 k3 ((f1.trans f2).trans k4) (s3.2.2.trans (s2.2.2.trans ho)) (s3.1.trans hi2) hd3
        | ret =>
          obtain ⟨st', G3, k1, k2, k3, k4⟩ := hq3
          unfold kS at k1
          simp only at k1
          rw [Option.bind_eq_some_iff] at k1; obtain ⟨x2, hx2, k1⟩ := k1
          have k1 := Option.some.inj k1
          cases hs : stepP (pos == 0) k ((Utf8.decode s pos).1 : Int) with
          | some k' => rw [hs] at k1; cases k1
          | none =>
            rw [hs] at k1 hr
            simp only [outP, Sum.inr.injEq, Prod.mk.injEq] at k1
            obtain ⟨rfl, hh⟩ := k1
            have rk3 := of_avs k2 [(2, .lit (.int .i64 0))] (fun p hp => by
              simp only [List.mem_cons, List.not_mem_nil, or_false] at hp
              rw [hp]; exact hx2)
            rw [hh] at rk3
            exact hret hr.symm a3 w3 ⟨G3, rk3, k3, (f1.trans f2).trans k4⟩ hd3
        | exit i => obtain ⟨st', G3, k1, _⟩ := hq3; cases k1
        | panic ch => obtain ⟨x, v, G3, h', _, k1, _⟩ := hq3; cases k1
        | goto l => exact hq3.elim
        | outgrown => exact hq3.elim
    · rw [dif_neg hp] at hr
      subst hr
      refine step_value (o := o5 0) (nt := Try.f59.ntmps) (st := S _ h) (x := .tup [.lit (.bool false)]) (v := .tuple #[.bool false]) (w' := w) (G' := G) rfl rfl rfl (fun c hc => by cases hc) (by decide) rfl hn ?_ rs (.tup (.cons (.lit rfl) .nil)) fun a1 r1 n1 d1 => ?_
      · have hnx := Lib.run_next_end_at (P := Try.prog) w q s pos (o5 0).type hi hp
        unfold execOp
        show Sem.run Try.prog (Instr.next (a.eval (.tmp 10)) true _ >>= _) w = _
        rw [hev, Sem.run_bind, hnx]
        rfl
      · rw [wpOpsIn_cons]
        refine step_keep okE0 call0_ok (H := {}) (G0 := G0) (w0 := w0) rfl [3, 12] (e51f h k q) ⟨G, r1, n1, hf⟩ (d1.trans hd) fun a2 w2 hat2 hd2 => ?_
        obtain ⟨G2, r2, n2, f2⟩ := hat2
        refine wpIn_seq (wpIn_cond_false (slotA r2 (i := 12) rfl).litE (wpIn_exit ?_))
        exact hex a2 w2 ⟨G2, r2.keep (some [3]), n2, f2⟩ hd2

/-- What a text is by its letters alone. -/
def shapeP (s : ByteArray) : Int := bif decide ((s.size : Int) > 8) then 0 else goP s 10 0 0

theorem shape_ends (s : ByteArray) (h : Heap) : Ends Try.prog 59 [.lit (.string s)] h (.ret (.lit (.int .i64 (shapeP s)))) h := by
  refine ⟨⟨Try.f59, Try.func59, by kernel_rfl, rfl⟩, fun d G w argv hr hh hw => ?_⟩
  refine calls_of_wp Try.func59 rfl ?_
  refine (wpIn_wide (n := 0)).1 ?_
  have hal : argv.size = 1 := by simpa using hr.length.symm
  have hat : AtSt d Try.f59.ntmps G w (S [(0, sv s)] h) { tmps := argv ++ Array.replicate (Try.f59.ntmps - argv.size) undef, defers := [] } w := by
    refine ⟨G, ⟨fun i => ?_, fun u t off hu => ?_, hh, hw⟩, by rw [Array.size_append, Array.size_replicate, hal]; rfl, Fr.refl d G w⟩
    · rcases lkS_spec [(0, sv s)] i with e | e
      · show RepSlot _ _ _ _ (lkS _ _) _
        rw [e]; trivial
      · refine argSlots_spec [.lit (.string s)] 0 argv.toList hr (fun j x hj => ?_) _ e
        have hj' : j < argv.size := by simpa using (List.getElem?_eq_some_iff.1 hj).1
        rw [Nat.zero_add, Array.getD_eq_getD_getElem?, Array.getElem?_append_left hj', ← Array.getElem?_toList, hj]; rfl
    · exfalso
      have hu : lkS [(0, sv s)] u = .path t off := hu
      rcases lkS_spec [(0, sv s)] u with e | e
      · rw [e] at hu; cases hu
      · rw [hu] at e; simp at e
  refine wpIn_seq (seg_keep okE0 call0_ok (H := {}) (n := 0) (bi := 0) [0] (e0 s h) hat rfl fun a1 w1 hat1 hd1 => ?_)
  refine wpIn_seq (wpIn_seq (seg_keep okE0 call0_ok (H := {}) (n := 0) (bi := 0) [0, 8] (e1 s h) hat1 hd1 fun a2 w2 hat2 hd2 => ?_))
  obtain ⟨G2, r2, n2, f2⟩ := hat2
  have hb := (slotA r2 (i := 8) rfl).litE
  unfold shapeP
  cases hd8 : decide ((s.size : Int) > 8) with
  | true =>
    rw [hd8] at hb
    refine wpIn_cond_true hb (wpIn_seq (seg_keep okE0 call0_ok (H := {}) (n := 0) (bi := 0) [2] (e2 h _) ⟨G2, r2, n2, f2⟩ hd2 fun a3 w3 hat3 hd3 => ?_))
    exact wpIn_ret (done_ok hat3 hd3)
  | false =>
    rw [hd8] at hb
    have h9 : ¬ ((s.size : Int) > 8) := of_decide_eq_false hd8
    have h8 : s.size ≤ 8 := by omega
    refine wpIn_cond_false hb (wpIn_skip ?_)
    refine wpIn_seq (seg_keep okE0 call0_ok (H := {}) (n := 0) (bi := 0) [0, 3] (e3 s h _) ⟨G2, r2, n2, f2⟩ hd2 fun a3 w3 hat3 hd3 => ?_)
    refine wpIn_seq (wpIn_seq (wpIn_region ?_))
    change wpOpsIn _ _ _ (opsOf R4) _ [0, 1] _ _
    rw [wpOpsIn_cons]
    refine step_keep okE0 call0_ok (H := {}) rfl [3, 9] (e40 s h) hat3 hd3 fun a4 w4 hat4 hd4 => ?_
    rw [wpOpsIn_cons]
    obtain ⟨G4, r4, n4, f4⟩ := hat4
    have v9 : a4.eval (.tmp 9) = .string s := (slotA r4 (i := 9) rfl).litE
    obtain ⟨ra, fa⟩ := st_alloc (.stringIter s 0) r4
    refine step_value (o := o4 1) (nt := Try.f59.ntmps) (st := S _ h) (x := .lit (.pointer (some ⟨w4.heap.size, 0, none⟩))) (v := .pointer (some ⟨w4.heap.size, 0, none⟩)) (w' := w4.alloc (.stringIter s 0)) (G' := setO G4 w4.heap.size .none) rfl rfl rfl (fun c hc => by cases hc) (by decide) rfl n4 ?_ ra (.lit rfl) fun a5 r5 n5 d5 => ?_
    · have hnx := run_range_string (P := Try.prog) w4 9 s Try.underlying9
      unfold execOp
      show Sem.run Try.prog (Instr.range 9 (a4.eval (.tmp 9)) >>= _) w4 = _
      rw [v9, Sem.run_bind, hnx]
      rfl
    · refine wpIn_block (wpIn_loop_rounds 10 ?_)
      have r6 := r5.keep (some [3, 10])
      refine loop_ok (r := goP s 10 0 0) (h := h) (s := s) (G0 := G) (w0 := w) (q := w4.heap.size) f4.size ?_ ?_ 10 0 0 a5 (setO G4 w4.heap.size .none) (w4.alloc (.stringIter s 0)) (by omega) (Nat.zero_le _) rfl r6 n5 (f4.trans fa) setO_self (heap_alloc_new _ _) (d5.trans hd4)
      · intro a6 w6 hat6 hd6
        show Code.wpIn (FF none) 0 Try.prog (pR t4) (bodyPost Try.prog Try.f59 (EndOk d G w (.ret (.lit (.int .i64 (goP s 10 0 0)))) h)) a6 w6
        refine wpIn_seq (seg_keep okE0 call0_ok (H := {}) (n := 0) (bi := 0) [2] (e14 h _) hat6 hd6 fun a7 w7 hat7 hd7 => ?_)
        exact wpIn_ret (done_ok hat7 hd7)
      · intro hr0 a6 w6 hat6 hd6
        rw [show cond false 0 (goP s 10 0 0) = goP s 10 0 0 from rfl, hr0]
        exact done_ok hat6 hd6
end P59

def p59 : (Nat → List AV → Heap → R) → List AV → Heap → R := fun _ args h => match args with
  | [.lit (.string s)] => some (.ret (.lit (.int .i64 (P59.shapeP s))), h)
  | _ => none
theorem p59_ok (call : Nat → List AV → Heap → R) (args : List AV) (h : Heap) (out : Out) (h' : Heap) (e : p59 call args h = some (out, h')) : Ends Try.prog 59 args h out h' := by
  unfold p59 at e
  split at e
  · have e := Option.some.inj e; cases e
    exact P59.shape_ends _ _
  · cases e
end Go.Sh.T

/- The walk over a tree's nodes: what the iterator promises. -/
namespace Go.Sh.T
open Go Go.Sh Go.Proofs
set_option maxRecDepth 100000
set_option linter.unusedVariables false
set_option linter.unusedSimpArgs false

namespace W34
def yl (l : Nat) : AV := .lit (.func (.yield l) #[] #[])

mutual
inductive Tr : List AV → List AV → Prop
  | mk {q0 q1 q2 q3 : AV} {kids : List (List AV)} {xs : List AV} (h : TrL kids xs) (hl : kids.length ≤ 9223372036854775807) : Tr [q0, q1, q2, q3, .sl 5 kids] (.agg [q0, q1, q2, q3, .sl 5 kids] :: xs)
inductive TrL : List (List AV) → List AV → Prop
  | nil : TrL [] []
  | cons {e : List AV} {r : List (List AV)} {xs ys : List AV} (h : Tr e xs) (t : TrL r ys) : TrL (e :: r) (xs ++ ys)
end

theorem Tr.len {e xs : List AV} (h : Tr e xs) : e.length = 5 := by cases h; rfl

noncomputable def body : Code := Try.f54.body.getD .skip
def pL : Code → Code
  | .seq a _ => a
  | .block _ c => c
  | .loop c => c
  | .cond _ a _ => a
  | c => c
def pR : Code → Code
  | .seq _ b => b
  | .cond _ _ b => b
  | c => c
def opsOf : Code → Array Oper
  | .region _ ops _ => ops
  | _ => #[]
noncomputable def R0 := pL body
noncomputable def R1 := pL (pL (pR body))
noncomputable def R2 := pL (pL (pR (pL (pR body))))
noncomputable def tl := pR (pR body)
noncomputable def R3 := pL (pL tl)
noncomputable def lp := pL (pL (pR (pL tl)))
noncomputable def R4 := pL lp
noncomputable def b1 := pL (pL (pR (pR lp)))
noncomputable def R5 := pL b1
noncomputable def R6 := pL (pR b1)
noncomputable def R7 := pL (pL (pR (pR b1)))
noncomputable def R8 := pR (pR (pR lp))
noncomputable def R9 := pL (pR tl)
noncomputable def o1 (i : Nat) : Oper := (opsOf R1).getD i default
noncomputable def o6 (i : Nat) : Oper := (opsOf R6).getD i default

abbrev S (l : List (Nat × Slot)) (h : Heap) : St := { s := lkS l, h := h }
abbrev HB : FHint := { base := [(11, 2)] }
noncomputable abbrev ev0 (L : List Nat) (c : Code) (st : St) : Option (List (Nat × Slot) × Heap) := evC E0 HB Try.f54.ntmps noCall 0 c 0 st (kL L) kN
abbrev lc (l : List AV) : Slot := .loc (l.map .v)
abbrev iv (i : Int) : Slot := .c (.v (.lit (.int .i64 i)))
abbrev bv (b : Bool) : Slot := .c (.v (.lit (.bool b)))

section
variable (l : Nat) (q0 q1 q2 q3 : AV) (kids : List (List AV)) (h : Heap)
theorem e0 : ev0 [1, 2] R0 (S [(0, .c (.v (.agg [q0, q1, q2, q3, .sl 5 kids]))), (1, .c (.v (yl l)))] h) = some ([(1, .c (.v (yl l))), (2, lc [q0, q1, q2, q3, .sl 5 kids])], h) := by kernel_rfl
theorem e10 : stepK E0 {} Try.f54.ntmps noCall (opsOf R1) 0 (o1 0) (S [(1, .c (.v (yl l))), (2, lc [q0, q1, q2, q3, .sl 5 kids])] h) (kLs [1, 2, 7]) kN = some ([(1, .c (.v (yl l))), (2, lc [q0, q1, q2, q3, .sl 5 kids]), (7, .c (.v (yl l)))], h) := by kernel_rfl
theorem e11 : stepK E0 {} Try.f54.ntmps noCall (opsOf R1) 1 (o1 1) (S [(1, .c (.v (yl l))), (2, lc [q0, q1, q2, q3, .sl 5 kids]), (7, .c (.v (yl l)))] h) (kLs [1, 2, 7, 8]) kN = some ([(1, .c (.v (yl l))), (2, lc [q0, q1, q2, q3, .sl 5 kids]), (7, .c (.v (yl l))), (8, .c (.v (.agg [q0, q1, q2, q3, .sl 5 kids])))], h) := by kernel_rfl
theorem e13 (t : Bool) : stepK E0 {} Try.f54.ntmps noCall (opsOf R1) 3 (o1 3) { s := upd (lkS [(1, .c (.v (yl l))), (2, lc [q0, q1, q2, q3, .sl 5 kids]), (7, .c (.v (yl l))), (8, .c (.v (.agg [q0, q1, q2, q3, .sl 5 kids])))]) 9 (bv t), h := h } (kLs [1, 2, 10]) kN = some ([(1, .c (.v (yl l))), (2, lc [q0, q1, q2, q3, .sl 5 kids]), (10, bv (!t))], h) := by cases t <;> kernel_rfl
theorem e2 (st : Nat → Slot) : ev0 [4] R2 { s := st, h := h } = some ([(4, bv false)], h) := by kernel_rfl
theorem e3 (t : Bool) : ev0 [1, 12, 13, 14] R3 (S [(1, .c (.v (yl l))), (2, lc [q0, q1, q2, q3, .sl 5 kids]), (10, bv t)] h) = some ([(1, .c (.v (yl l))), (12, .c (.v (.sl 5 kids))), (13, iv kids.length), (14, iv 0)], h) := by kernel_rfl
theorem e4 (n i : Int) : ev0 [1, 12, 13, 14, 15] R4 (S [(1, .c (.v (yl l))), (12, .c (.v (.sl 5 kids))), (13, iv n), (14, iv i)] h) = some ([(1, .c (.v (yl l))), (12, .c (.v (.sl 5 kids))), (13, iv n), (14, iv i), (15, bv (decide (i < n)))], h) := by kernel_rfl
theorem e5 (n i : Int) (t : Bool) : ev0 [1, 12, 13, 14, 6] R5 (S [(1, .c (.v (yl l))), (12, .c (.v (.sl 5 kids))), (13, iv n), (14, iv i), (15, bv t)] h) = (indexA 5 (.sl 5 kids) (.lit (.int .i64 i))).bind fun e => (partA true 5 0 e).bind fun v => explodeK ti25 v fun cs => some ([(1, .c (.v (yl l))), (12, .c (.v (.sl 5 kids))), (13, iv n), (14, iv i), (6, .loc cs)], h) := by kernel_rfl
theorem e60 (n i : Int) (zs : List (List AV)) : stepK E0 {} Try.f54.ntmps noCall (opsOf R6) 0 (o6 0) (S [(1, .c (.v (yl l))), (12, .c (.v (.sl 5 zs))), (13, iv n), (14, iv i), (6, lc [q0, q1, q2, q3, .sl 5 kids])] h) (kLs [1, 12, 13, 14, 18]) kN = some ([(1, .c (.v (yl l))), (12, .c (.v (.sl 5 zs))), (13, iv n), (14, iv i), (18, .c (.v (.agg [q0, q1, q2, q3, .sl 5 kids])))], h) := by kernel_rfl
theorem e61 (n i : Int) (x : AV) : stepK E0 {} Try.f54.ntmps noCall (opsOf R6) 1 (o6 1) (S [(1, .c (.v (yl l))), (12, .c (.v (.sl 5 kids))), (13, iv n), (14, iv i), (18, .c (.v x))] h) (kLs [1, 12, 13, 14, 18, 19]) kN = some ([(1, .c (.v (yl l))), (12, .c (.v (.sl 5 kids))), (13, iv n), (14, iv i), (18, .c (.v x)), (19, .c (.v (yl l)))], h) := by kernel_rfl
theorem e63 (n i : Int) (x : AV) (t : Bool) : stepK E0 {} Try.f54.ntmps noCall (opsOf R6) 3 (o6 3) { s := upd (lkS [(1, .c (.v (yl l))), (12, .c (.v (.sl 5 kids))), (13, iv n), (14, iv i), (18, .c (.v x)), (19, .c (.v (yl l)))]) 20 (bv t), h := h } (kLs [1, 12, 13, 14, 21]) kN = some ([(1, .c (.v (yl l))), (12, .c (.v (.sl 5 kids))), (13, iv n), (14, iv i), (21, bv (!t))], h) := by cases t <;> kernel_rfl
theorem e7 (st : Nat → Slot) : ev0 [4] R7 { s := st, h := h } = some ([(4, bv false)], h) := by kernel_rfl
theorem e8 (n i : Int) (t : Bool) : ev0 [1, 12, 13, 14] R8 (S [(1, .c (.v (yl l))), (12, .c (.v (.sl 5 kids))), (13, iv n), (14, iv i), (21, bv t)] h) = some ([(1, .c (.v (yl l))), (12, .c (.v (.sl 5 kids))), (13, iv n), (14, iv (IntKind.i64.wrap (i + 1)))], h) := by kernel_rfl
theorem e9 (st : Nat → Slot) : ev0 [4] R9 { s := st, h := h } = some ([(4, bv true)], h) := by kernel_rfl
theorem fin4 (t : Bool) : finish E0 {} Try.f54 h (S [(4, bv t)] h) = some (.ret (.lit (.bool t)), h) := by kernel_rfl
end

/-- What a walk promises. -/
def WalkC (cs xs : List AV) : Prop := ∀ (d : Nat) (G : Gh) (w : World) (l : Nat) (rc : Loop) (rd : AV → Heap → Option (Option Code × Heap)) (xv : Value) (h : Heap) (j : Option Code) (h' : Heap), Ready G w l rc → RoundC Try.prog l d G w rc rd → RepA G.S w G.μ (.agg cs) xv → RepHeap G w h → Within G w →
  foldR rd xs h = some (j, h') → Calls Try.prog 54 #[xv, .func (.yield l) #[] #[]] w (PostY d G w l rc j h')

theorem callable : Callable Try.prog 54 := ⟨Try.f54, Try.func54, by kernel_rfl, rfl⟩

theorem slotA {d nt : Nat} {G0 G : Gh} {w0 w : World} {st : St} {a : Act} (r : RepSt d G w st a.tmps) {i : Nat} {x : AV} (h : st.s i = .c (.v x)) : RepA G.S w G.μ x (a.tmps.getD i undef) := by
  have := r.slot i
  rw [h] at this; exact this

theorem yl_val {S : Nat → Nat} {w : World} {μ : List Nat} {l : Nat} {v : Value} (h : RepA S w μ (yl l) v) : v = .func (.yield l) #[] #[] := h.litE

/-- The end: the result is told. -/
theorem done_ok {d l : Nat} {G0 : Gh} {w0 : World} {rc : Loop} {j : Option Code} {h' : Heap} {a : Act} {w : World} {t : Bool} (ht : t = j.isNone) (hat : AtSt d Try.f54.ntmps G0 (endW w0 l rc j) (S [(4, bv t)] h') a w) (hd : a.defers = []) : bodyPost Try.prog Try.f54 (PostY d G0 w0 l rc j h') .ret a w := by
  obtain ⟨G, r, hnt, hf⟩ := hat
  obtain ⟨v, k1, ⟨G', k2, k3, k4, k5⟩, _⟩ := finish_ok (G0 := G) (w0 := w) okE0 r.heap r (Fr.refl _ _ _) (fin4 h' t)
  have hv : v = .bool t := RepA.litE k5
  refine ⟨hd, v, k1, ?_, G', hf.trans k2, k3, k4⟩
  rw [hv, ht]

theorem loop_ok {n : Nat} (rec : ∀ cs xs, xs.length < n → Tr cs xs → WalkC cs xs) {d l : Nat} {G0 : Gh} {w0 : World} {rc : Loop} {rd : AV → Heap → Option (Option Code × Heap)} {kids : List (List AV)} {j : Option Code} {h' : Heap} (hk : kids.length ≤ 9223372036854775807)
    (rdy : Ready G0 w0 l rc) (rnd : RoundC Try.prog l d G0 w0 rc rd) {Q : Exit → Act → World → Prop}
    (hex : j = none → ∀ a w, AtSt d Try.f54.ntmps G0 (endW w0 l rc j) (S [(1, .c (.v (yl l)))] h') a w → a.defers = [] → Q (.exit 0) a w)
    (hret : j.isNone = false → ∀ a w, AtSt d Try.f54.ntmps G0 (endW w0 l rc j) (S [(4, bv false)] h') a w → a.defers = [] → Q .ret a w) :
    ∀ (m i : Nat) (ys : List AV) (h : Heap) (a : Act) (w : World), TrL (kids.drop i) ys → ys.length < n → i ≤ kids.length → kids.length < m + i → foldR rd ys h = some (j, h') → AtSt d Try.f54.ntmps G0 w0 (S [(1, .c (.v (yl l))), (12, .c (.v (.sl 5 kids))), (13, iv kids.length), (14, iv i)] h) a w → a.defers = [] →
      Code.roundsIn (FF none) 0 Try.prog lp Q m a w
  | 0, i, ys, h, a, w, _, _, h1, h2, _, _, _ => by omega
  | m + 1, i, ys, h, a, w, tr, hys, h1, h2, hf, hat, hd => by
    rw [roundsIn_succ]
    refine wpIn_seq (seg_keep okE0 (noCall_ok _) (H := HB) (n := 0) (bi := 0) [1, 12, 13, 14, 15] (e4 l kids h kids.length i) hat hd fun a1 w1 hat1 hd1 => ?_)
    obtain ⟨G1, r1, n1, f1⟩ := hat1
    have hb := (slotA (nt := 0) (G0 := G0) (w0 := w0) r1 (i := 15) rfl).litE
    by_cases hi : i < kids.length
    · rw [show decide ((i : Int) < (kids.length : Int)) = true from by simpa using hi] at hb
      refine wpIn_seq (wpIn_cond_true hb (wpIn_skip ?_))
      refine wpIn_seq (wpIn_block ?_)
      have hdr : kids.drop i = kids[i] :: kids.drop (i + 1) := List.drop_eq_getElem_cons hi
      rw [hdr] at tr
      obtain ⟨xs, ys', hxs, htl, rfl⟩ : ∃ xs ys', Tr kids[i] xs ∧ TrL (kids.drop (i + 1)) ys' ∧ ys = xs ++ ys' := by
        generalize kids[i] = e0 at tr; generalize kids.drop (i + 1) = r0 at tr
        cases tr with
        | cons h t => exact ⟨_, _, h, t, rfl⟩
      have hidx : indexA 5 (.sl 5 kids) (.lit (.int .i64 (i : Int))) = some kids[i] := by simp [indexA, slOf, intOf, hi]
      generalize hce : kids[i] = ce at hxs hidx
      have hxs0 := hxs
      obtain ⟨q0, q1, q2, q3, ks, hce2⟩ : ∃ q0 q1 q2 q3 ks, ce = [q0, q1, q2, q3, .sl 5 ks] := by cases hxs; exact ⟨_, _, _, _, _, rfl⟩
      subst hce2
      have k5 := e5 l kids h kids.length i (decide ((i : Int) < (kids.length : Int)))
      rw [hidx] at k5
      refine wpIn_seq (seg_keep okE0 (noCall_ok _) (H := HB) (n := 0) (bi := 0) [1, 12, 13, 14, 6] (h' := h) (l := [(1, .c (.v (yl l))), (12, .c (.v (.sl 5 kids))), (13, iv kids.length), (14, iv i), (6, lc [q0, q1, q2, q3, .sl 5 ks])]) k5 ⟨G1, r1, n1, f1⟩ hd1 fun a2 w2 hat2 hd2 => ?_)
      refine wpIn_seq (wpIn_region ?_)
      change wpOpsIn _ _ _ (opsOf R6) _ [0, 1, 2, 3] _ _
      rw [wpOpsIn_cons]
      refine step_keep okE0 (noCall_ok _) (H := {}) rfl [1, 12, 13, 14, 18] (e60 l q0 q1 q2 q3 ks h kids.length i kids) hat2 hd2 fun a3 w3 hat3 hd3 => ?_
      rw [wpOpsIn_cons]
      refine step_keep okE0 (noCall_ok _) (H := {}) rfl [1, 12, 13, 14, 18, 19] (e61 l kids h kids.length i (.agg [q0, q1, q2, q3, .sl 5 ks])) hat3 hd3 fun a4 w4 hat4 hd4 => ?_
      rw [wpOpsIn_cons]
      obtain ⟨G4, r4, n4, f4⟩ := hat4
      have rdy4 := rdy.later f4
      have v18 := slotA (nt := 0) (G0 := G0) (w0 := w0) r4 (i := 18) rfl
      have v19 := yl_val (slotA (nt := 0) (G0 := G0) (w0 := w0) r4 (i := 19) rfl)
      have hlen : xs.length < n := by rw [List.length_append] at hys; omega
      have step : ∀ (jj : Option Code) (hh : Heap), foldR rd xs h = some (jj, hh) → ∀ (K : Act → World → Prop) (Q : Exit → Act → World → Prop), (∀ a' G' w', RepSt d G' w' { s := upd (lkS [(1, .c (.v (yl l))), (12, .c (.v (.sl 5 kids))), (13, iv kids.length), (14, iv i), (18, .c (.v (.agg [q0, q1, q2, q3, .sl 5 ks]))), (19, .c (.v (yl l)))]) 20 (bv jj.isNone), h := hh } a'.tmps → a'.tmps.size = Try.f54.ntmps → a'.defers = a4.defers → Fr d G4 (endW w4 l rc jj) G' w' → K a' w') →
          wpOpIn (FF none) 0 Try.prog (opsOf R6) Q 2 K a4 w4 := by
        intro jj hh hfo K Q hK
        refine step_hand (o := o6 2) (nt := Try.f54.ntmps) (st := S _ h) rfl rfl rfl (fun c hc => by cases hc) (by decide) rfl r4 n4 rdy4 (.inl ⟨54, #[a4.tmps.getD 18 undef, .func (.yield l) #[] #[]], ?_, ?_⟩) hK
        · have := run_call (a := a4) (w := w4) Try.prog (o := o6 2) rfl rfl (f := 54) (fv := #[]) (cv := #[]) rfl callable
          rw [this]
          have e19 : a4.eval (.tmp 19) = .func (.yield l) #[] #[] := v19
          simp only [Array.map, Array.append_empty, Array.empty_append]
          congr 2
          show (#[.tmp 18, .tmp 19] : Array Operand).map a4.eval = _
          simp only [List.map_toArray, List.map_cons, List.map_nil, e19]
          rfl
        · exact rec _ xs hlen hxs0 (d + 1) G4 w4 l rc rd _ h jj hh rdy4 (rnd.later (Nat.le_succ d) f4 ) v18 r4.heap r4.within hfo
      rcases foldR_append hf with ⟨h3, k1, k2⟩ | ⟨c, k1, k2⟩
      · refine step none h3 k1 _ _ fun a5 G5 w5 r5 n5 d5 f5 => ?_
        rw [endW_none rdy4] at f5
        rw [wpOpsIn_cons]
        refine step_keep okE0 (noCall_ok _) (H := {}) rfl [1, 12, 13, 14, 21] (e63 l kids h3 kids.length i (.agg [q0, q1, q2, q3, .sl 5 ks]) true) ⟨G5, r5, n5, f4.trans f5⟩ (d5.trans hd4) fun a6 w6 hat6 hd6 => ?_
        obtain ⟨G6, r6, n6, f6⟩ := hat6
        refine wpIn_cond_false (slotA (nt := 0) (G0 := G0) (w0 := w0) r6 (i := 21) rfl).litE (wpIn_skip ?_)
        refine seg_keep okE0 (noCall_ok _) (H := HB) (n := 0) (bi := 0) [1, 12, 13, 14] (e8 l kids h3 kids.length i false) ⟨G6, r6, n6, f6⟩ hd6 fun a7 w7 hat7 hd7 => ?_
        rw [IntWalk.i64_in ((i : Int) + 1) (by omega)] at hat7
        exact loop_ok rec hk rdy rnd hex hret m (i + 1) ys' h3 a7 w7 htl (by rw [List.length_append] at hys; omega) hi (by omega) k2 hat7 hd7
      · have k2 : j = some c := k2
        subst k2
        refine step (some c) h' k1 _ _ fun a5 G5 w5 r5 n5 d5 f5 => ?_
        rw [wpOpsIn_cons]
        have f45 : Fr d G0 (endW w0 l rc (some c)) G5 w5 := (f4.put rdy.there rdy.own).trans f5
        refine step_keep okE0 (noCall_ok _) (H := {}) rfl [1, 12, 13, 14, 21] (e63 l kids h' kids.length i (.agg [q0, q1, q2, q3, .sl 5 ks]) false) ⟨G5, r5, n5, f45⟩ (d5.trans hd4) fun a6 w6 hat6 hd6 => ?_
        obtain ⟨G6, r6, n6, f6⟩ := hat6
        refine wpIn_cond_true (slotA (nt := 0) (G0 := G0) (w0 := w0) r6 (i := 21) rfl).litE ?_
        refine wpIn_seq (seg_keep okE0 (noCall_ok _) (H := HB) (n := 0) (bi := 0) [4] (e7 h' _) ⟨G6, r6, n6, f6⟩ hd6 fun a7 w7 hat7 hd7 => ?_)
        exact wpIn_ret (hret rfl a7 w7 hat7 hd7)
    · rw [show decide ((i : Int) < (kids.length : Int)) = false from by simpa using hi] at hb
      refine wpIn_seq (wpIn_cond_false hb (wpIn_exit ?_))
      have hdr : kids.drop i = [] := List.drop_eq_nil_of_le (by omega)
      rw [hdr] at tr
      cases tr
      have e := Prod.mk.inj (Option.some.inj hf)
      obtain ⟨ej, eh⟩ := e
      subst ej; subst eh
      refine hex rfl a1 w1 ?_ hd1
      rw [endW_none rdy]
      obtain ⟨_, rk, nk, fk⟩ := AtSt.keep (some [1]) ⟨G1, r1, n1, f1⟩
      exact ⟨_, rk, nk, fk⟩

theorem walk_ok : ∀ (n : Nat) (cs xs : List AV), xs.length < n → Tr cs xs → WalkC cs xs
  | 0, cs, xs, h, _ => by omega
  | n + 1, cs, xs, hlt, tr => by
    intro d G0 w0 l rc rd xv h j h' rdy rnd hx hh hw hf
    cases tr with
    | mk hk hl =>
    rename_i q0 q1 q2 q3 kids xs
    refine calls_of_wp Try.func54 rfl ?_
    refine (wpIn_wide (n := 0)).1 ?_
    have hat : AtSt d Try.f54.ntmps G0 w0 (S [(0, .c (.v (.agg [q0, q1, q2, q3, .sl 5 kids]))), (1, .c (.v (yl l)))] h) { tmps := #[xv, .func (.yield l) #[] #[]] ++ Array.replicate (Try.f54.ntmps - 2) undef, defers := [] } w0 := by
      refine ⟨G0, ⟨fun i => rep_two rfl rfl hx (.lit rfl) _ i, fun u t off hu => ?_, hh, hw⟩, by rw [Array.size_append, Array.size_replicate]; rfl, Fr.refl _ _ _⟩
      exfalso
      rcases u with _ | _ | u
      · cases hu
      · cases hu
      · cases hu
    refine wpIn_seq (seg_keep okE0 (noCall_ok _) (H := HB) (n := 0) (bi := 0) [1, 2] (e0 l q0 q1 q2 q3 kids h) hat rfl fun a1 w1 hat1 hd1 => ?_)
    refine wpIn_seq (wpIn_seq (wpIn_region ?_))
    change wpOpsIn _ _ _ (opsOf R1) _ [0, 1, 2, 3] _ _
    rw [wpOpsIn_cons]
    refine step_keep okE0 (noCall_ok _) (H := {}) rfl [1, 2, 7] (e10 l q0 q1 q2 q3 kids h) hat1 hd1 fun a3 w3 hat3 hd3 => ?_
    rw [wpOpsIn_cons]
    refine step_keep okE0 (noCall_ok _) (H := {}) rfl [1, 2, 7, 8] (e11 l q0 q1 q2 q3 kids h) hat3 hd3 fun a4 w4 hat4 hd4 => ?_
    rw [wpOpsIn_cons]
    obtain ⟨G4, r4, n4, f4⟩ := hat4
    have rdy4 := rdy.later f4
    have v8 := slotA (nt := 0) (G0 := G0) (w0 := w0) r4 (i := 8) rfl
    have v7 := yl_val (slotA (nt := 0) (G0 := G0) (w0 := w0) r4 (i := 7) rfl)
    have step : ∀ (jj : Option Code) (hh : Heap), rd (.agg [q0, q1, q2, q3, .sl 5 kids]) h = some (jj, hh) → ∀ (K : Act → World → Prop) (Q : Exit → Act → World → Prop), (∀ a' G' w', RepSt d G' w' { s := upd (lkS [(1, .c (.v (yl l))), (2, lc [q0, q1, q2, q3, .sl 5 kids]), (7, .c (.v (yl l))), (8, .c (.v (.agg [q0, q1, q2, q3, .sl 5 kids])))]) 9 (bv jj.isNone), h := hh } a'.tmps → a'.tmps.size = Try.f54.ntmps → a'.defers = a4.defers → Fr d G4 (endW w4 l rc jj) G' w' → K a' w') →
        wpOpIn (FF none) 0 Try.prog (opsOf R1) Q 2 K a4 w4 := by
      intro jj hh hfo K Q hK
      obtain ⟨fn, tmps, assign, body, y1, y2⟩ := rnd 0 (d + 1) G4 w4 (.agg [q0, q1, q2, q3, .sl 5 kids]) (a4.tmps.getD 8 undef) h jj hh (Nat.le_succ d) f4 v8 r4.heap r4.within hfo
      refine step_hand (o := o1 2) (nt := Try.f54.ntmps) (st := S _ h) rfl rfl rfl (fun c hc => by cases hc) (by decide) rfl r4 n4 rdy4 (.inr ⟨l, fn, tmps, assign, body, ?_, y2⟩) hK
      exact run_yieldOp (a := a4) (w := w4) Try.prog (o := o1 2) rfl rfl v7 (by
        show (Instr.yield l ((#[.tmp 8] : Array Operand).map a4.eval)).run Try.prog w4 = _
        simp only [List.map_toArray, List.map_cons, List.map_nil]
        exact y1)
    rcases foldR_cons hf with ⟨h3, k1, k2⟩ | ⟨c, k1, k2⟩
    · refine step none h3 k1 _ _ fun a5 G5 w5 r5 n5 d5 f5 => ?_
      rw [endW_none rdy4] at f5
      rw [wpOpsIn_cons]
      refine step_keep okE0 (noCall_ok _) (H := {}) rfl [1, 2, 10] (e13 l q0 q1 q2 q3 kids h3 true) ⟨G5, r5, n5, f4.trans f5⟩ (d5.trans hd4) fun a6 w6 hat6 hd6 => ?_
      obtain ⟨G6, r6, n6, f6⟩ := hat6
      refine wpIn_cond_false (slotA (nt := 0) (G0 := G0) (w0 := w0) r6 (i := 10) rfl).litE (wpIn_skip ?_)
      refine wpIn_seq (wpIn_seq (seg_keep okE0 (noCall_ok _) (H := HB) (n := 0) (bi := 0) [1, 12, 13, 14] (e3 l q0 q1 q2 q3 kids h3 false) ⟨G6, r6, n6, f6⟩ hd6 fun a7 w7 hat7 hd7 => ?_))
      refine wpIn_block (wpIn_loop_rounds (kids.length + 1) ?_)
      refine loop_ok (walk_ok n) hl rdy rnd ?_ ?_ (kids.length + 1) 0 xs h3 a7 w7 (by rw [List.drop_zero]; exact hk) (by simp only [List.length_cons] at hlt; omega) (Nat.zero_le _) (by omega) k2 hat7 hd7
      · intro hj a w hat hd
        show Code.wpIn (FF none) 0 Try.prog (pR tl) (bodyPost Try.prog Try.f54 (PostY d G0 w0 l rc j h')) a w
        refine wpIn_seq (seg_keep okE0 (noCall_ok _) (H := HB) (n := 0) (bi := 0) [4] (e9 h' _) hat hd fun a8 w8 hat8 hd8 => ?_)
        exact wpIn_ret (done_ok (by rw [hj]; rfl) hat8 hd8)
      · intro hj a w hat hd
        exact done_ok hj.symm hat hd
    · have k2 : j = some c := k2
      subst k2
      refine step (some c) h' k1 _ _ fun a5 G5 w5 r5 n5 d5 f5 => ?_
      rw [wpOpsIn_cons]
      have f45 : Fr d G0 (endW w0 l rc (some c)) G5 w5 := (f4.put rdy.there rdy.own).trans f5
      refine step_keep okE0 (noCall_ok _) (H := {}) rfl [1, 2, 10] (e13 l q0 q1 q2 q3 kids h' false) ⟨G5, r5, n5, f45⟩ (d5.trans hd4) fun a6 w6 hat6 hd6 => ?_
      obtain ⟨G6, r6, n6, f6⟩ := hat6
      refine wpIn_cond_true (slotA (nt := 0) (G0 := G0) (w0 := w0) r6 (i := 10) rfl).litE ?_
      refine wpIn_seq (seg_keep okE0 (noCall_ok _) (H := HB) (n := 0) (bi := 0) [4] (e2 h' _) ⟨G6, r6, n6, f6⟩ hd6 fun a7 w7 hat7 hd7 => ?_)
      exact wpIn_ret (done_ok rfl hat7 hd7)

/- the iterator: a closure that goes on to the walk -/
noncomputable def it : Code := Try.f53.body.getD .skip
noncomputable def oi (i : Nat) : Oper := (opsOf it).getD i default
abbrev HI : FHint := { hp := [1] }
theorem i0 (l i : Nat) (h : Heap) : stepK E0 HI Try.f53.ntmps noCall (opsOf it) 0 (oi 0) (S [(0, .c (.v (yl l))), (1, .c (.v (.hp i 0)))] h) (kLs [0, 3]) kN = (hpart true 5 0 i h).bind fun v => some ([(0, .c (.v (yl l))), (3, .c (.v v))], h) := by kernel_rfl
theorem i1 (l : Nat) (x : AV) (h : Heap) : stepK E0 HI Try.f53.ntmps noCall (opsOf it) 1 (oi 1) (S [(0, .c (.v (yl l))), (3, .c (.v x))] h) (kLs [3, 4]) kN = some ([(3, .c (.v x)), (4, .c (.v (yl l)))], h) := by kernel_rfl
theorem ifin (st : Nat → Slot) (h : Heap) : finish E0 {} Try.f53 h { s := st, h := h } = some (.ret (.tup []), h) := by kernel_rfl

theorem iter_ok {cs xs : List AV} {h : Heap} {i : Nat} (tr : Tr cs xs) (hi : (h[i]?).map (·.map Cell.get) = some cs) : IterC Try.prog 53 [.hp i 0] xs h := by
  refine ⟨⟨Try.f53, Try.func53, by kernel_rfl, rfl⟩, fun d G w l rc rd cv j h' rdy rnd hcv hh hw hf => ?_⟩
  obtain ⟨l0⟩ := cv
  have hcv : RepL G.S w G.μ [.hp i 0] l0 := hcv
  obtain ⟨x1, rfl⟩ : ∃ x, l0 = [x] := by cases hcv with | cons h t => cases t; exact ⟨_, rfl⟩
  have hx : RepA G.S w G.μ (.hp i 0) x1 := by cases hcv with | cons h _ => exact h
  refine calls_of_wp Try.func53 rfl ?_
  refine (wpIn_wide (n := 0)).1 ?_
  have hat : AtSt d Try.f53.ntmps G w (S [(0, .c (.v (yl l))), (1, .c (.v (.hp i 0)))] h) { tmps := #[.func (.yield l) #[] #[], x1] ++ Array.replicate (Try.f53.ntmps - 2) undef, defers := [] } w := by
    refine ⟨G, ⟨fun i => rep_two rfl rfl (.lit rfl) hx _ i, fun u t off hu => ?_, hh, hw⟩, by rw [Array.size_append, Array.size_replicate]; rfl, Fr.refl _ _ _⟩
    exfalso
    rcases u with _ | _ | u
    · cases hu
    · cases hu
    · cases hu
  refine wpIn_region ?_
  change wpOpsIn _ _ _ (opsOf it) _ [0, 1, 2] _ _
  rw [wpOpsIn_cons]
  have hp : hpart true 5 0 i h = some (.agg cs) := by
    obtain ⟨c0, h1, h2⟩ := Option.map_eq_some_iff.1 hi
    unfold hpart
    rw [h1, Option.bind_some, h2]
    exact partAll tr.len
  have k0 := i0 l i h
  rw [hp] at k0
  refine step_keep okE0 (noCall_ok _) (H := HI) rfl [0, 3] (l := [(0, .c (.v (yl l))), (3, .c (.v (.agg cs)))]) (h' := h) k0 hat rfl fun a3 w3 hat3 hd3 => ?_
  rw [wpOpsIn_cons]
  refine step_keep okE0 (noCall_ok _) (H := HI) rfl [3, 4] (i1 l (.agg cs) h) hat3 hd3 fun a4 w4 hat4 hd4 => ?_
  rw [wpOpsIn_cons]
  obtain ⟨G4, r4, n4, f4⟩ := hat4
  have rdy4 := rdy.later f4
  have v3 := slotA (nt := 0) (G0 := G) (w0 := w) r4 (i := 3) rfl
  have v4 := yl_val (slotA (nt := 0) (G0 := G) (w0 := w) r4 (i := 4) rfl)
  refine step_hand (o := oi 2) (nt := Try.f53.ntmps) (st := S _ h) rfl rfl rfl (fun c hc => by cases hc) (by decide) rfl r4 n4 rdy4 (j := j) (h' := h') (.inl ⟨54, #[a4.tmps.getD 3 undef, .func (.yield l) #[] #[]], ?_, ?_⟩) fun a5 G5 w5 r5 n5 d5 f5 => ?_
  · have := run_call (a := a4) (w := w4) Try.prog (o := oi 2) rfl rfl (f := 54) (fv := #[]) (cv := #[]) rfl callable
    rw [this]
    have e4 : a4.eval (.tmp 4) = .func (.yield l) #[] #[] := v4
    simp only [Array.map, Array.append_empty, Array.empty_append]
    congr 2
    show (#[.tmp 3, .tmp 4] : Array Operand).map a4.eval = _
    simp only [List.map_toArray, List.map_cons, List.map_nil, e4]
    rfl
  · exact walk_ok _ _ xs (Nat.lt_succ_self _) tr (d + 1) G4 w4 l rc rd _ h j h' rdy4 (rnd.later (Nat.le_succ d) f4) v3 r4.heap r4.within hf
  · obtain ⟨v, k1, ⟨G', k2, k3, k4, k5⟩, _⟩ := finish_ok (G0 := G5) (w0 := w5) okE0 r5.heap r5 (Fr.refl _ _ _) (ifin _ h')
    exact ⟨d5.trans hd4, v, k1, ⟨v, rfl⟩, G', ((f4.put rdy.there rdy.own).trans f5).trans k2, k3, k4⟩
end W34
end Go.Sh.T

/- ty.Has: a range over a function, by its shadow. -/
namespace Go.Sh.T
open Go Go.Sh Go.Proofs
set_option maxRecDepth 100000
set_option linter.unusedVariables false
set_option linter.unusedSimpArgs false

namespace H34
open W34 (Tr TrL pL pR)
theorem noPrims0 : PrimsOk E0 := fun f p h => by cases h
noncomputable def call0 : Nat → List AV → Heap → R := ev E0 1
theorem call0_ok : SoundC Try.prog call0 := ev_ok okE0 noPrims0 1

mutual
theorem tr : ∀ t : Ty, t.small = true → Tr t.cells (t.pre.map fun x => .agg x.cells)
  | ⟨k, n, s, ls, xs⟩, h => by
    rw [Ty.small, Bool.and_eq_true] at h
    rw [Ty.pre_eq, List.map_cons, Ty.cells_eq]
    exact .mk (by rw [← Ty.cellsL_map]; exact trL xs h.2) (by rw [List.length_map]; exact bleE h.1)
theorem trL : ∀ l : List Ty, Ty.smallL l = true → TrL (Ty.cellsL l) ((Ty.preL l).map fun x => .agg x.cells)
  | [], _ => by rw [Ty.preL, Ty.cellsL]; exact .nil
  | t :: r, h => by
    rw [Ty.smallL, Bool.and_eq_true] at h
    rw [Ty.preL_cons, Ty.cellsL, List.map_append]
    exact .cons (tr t h.1) (trL r h.2)
end

noncomputable def body : Code := Try.f15.body.getD .skip
noncomputable def A := pL body
noncomputable def B := pL (pL (pR body))
noncomputable def rng := pL (pR (pL (pR body)))
noncomputable def rest := pR (pR body)
def asg : Code → Code
  | .rangeFunc _ _ a _ => a
  | c => c
def bod : Code → Code
  | .rangeFunc _ _ _ b => b
  | c => c
abbrev HH : FHint := { hb := [3, 4], hp := [3, 4], base := [(9, 5)] }
abbrev fnC (i : Nat) : Slot := .c (.v (.fn 53 [] [.hp i 0]))
abbrev hpS (i : Nat) : Slot := .c (.v (.hp i 0))

section
variable (t : Ty) (k : Int) (h : Heap)
theorem kA (q0 q1 q2 q3 q4 : AV) : evC E0 HH Try.f15.ntmps call0 0 A 0 { s := lkS (argSlots 0 [.agg [q0, q1, q2, q3, q4], .lit (.int .i64 k)]), h := h } (kL [2, 3, 4]) kN = some ([(2, .loc [.v q0, .v q1, .v q2, .v q3, .v q4]), (3, hpS h.length), (4, hpS (h ++ ([[.v (.lit (.int .i64 k))]] : Heap)).length)], (h ++ ([[.v (.lit (.int .i64 k))]] : Heap)) ++ ([[.v (.lit (.bool false))]] : Heap)) := by kernel_rfl
theorem kB (q0 q1 q2 q3 q4 : AV) (i j : Nat) : evC E0 HH Try.f15.ntmps call0 0 B 0 { s := lkS [(2, .loc [.v q0, .v q1, .v q2, .v q3, .v q4]), (3, hpS i), (4, hpS j)], h := h } (kL [3, 4, 7]) kN = some ([(3, hpS i), (4, hpS j), (7, fnC h.length)], h ++ [[.v q0, .v q1, .v q2, .v q3, .v q4]]) := by kernel_rfl
theorem kR (q0 q1 q2 q3 q4 : AV) (i j : Nat) : roundE E0 HH Try.f15.ntmps call0 0 (lkS [(3, hpS i), (4, hpS j)]) 8 (asg rng) (bod rng) (.agg [q0, q1, q2, q3, q4]) h =
    (hpart false 1 0 i h).bind fun v => (binAV E0 .eql 3 q0 v).bind fun r => (boolOf r).bind fun b => cond b ((hstore h j 0 [.v (.lit (.bool true))]).bind fun h2 => some (some .ret, h2)) (some (none, h)) := by kernel_rfl
theorem kF (h0 : Heap) (i j : Nat) (f : Slot) : finish E0 HH Try.f15 h0 { s := lkS [(3, hpS i), (4, hpS j), (7, f)], h := h } = (hpart false 1 0 j h).bind fun a => trunc HH h0 (.ret a) h := by kernel_rfl
theorem kC (h0 : Heap) (i j : Nat) (f : Slot) : evC E0 HH Try.f15.ntmps call0 0 rest 0 { s := lkS [(3, hpS i), (4, hpS j), (7, f)], h := h } (fun e st' => match e with | .exit _ => none | _ => finish E0 HH Try.f15 h0 st') (fun _ _ => none) =
    (hstore h j 0 [.v (.lit (.bool false))]).bind fun h2 => (hpart false 1 0 j h2).bind fun a => trunc HH h0 (.ret a) h2 := by kernel_rfl
end

theorem fold (k : Int) (h : Heap) (z : List (List Cell)) : ∀ l : List Ty, foldR (roundE E0 HH Try.f15.ntmps call0 0 (lkS [(3, hpS h.length), (4, hpS (h.length + 1))]) 8 (asg rng) (bod rng)) (l.map fun x => .agg x.cells) (h ++ ([.v (.lit (.int .i64 k))] :: [.v (.lit (.bool false))] :: z)) =
    some (if l.any (fun x => x.k == k) then (some .ret, h ++ ([.v (.lit (.int .i64 k))] :: [.v (.lit (.bool true))] :: z)) else (none, h ++ ([.v (.lit (.int .i64 k))] :: [.v (.lit (.bool false))] :: z)))
  | [] => rfl
  | t :: l => by
    rw [List.map_cons, foldR, List.any_cons, Ty.cells_eq, kR, hpart_app0]
    have e1 : hpart false 1 0 0 ([.v (.lit (.int .i64 k))] :: [.v (.lit (.bool false))] :: z) = some (.lit (.int .i64 k)) := rfl
    have e2 : hstore ([.v (.lit (.int .i64 k))] :: [.v (.lit (.bool false))] :: z) 1 0 [.v (.lit (.bool true))] = some ([.v (.lit (.int .i64 k))] :: [.v (.lit (.bool true))] :: z) := rfl
    rw [e1, Option.bind_some, bin_int]
    simp only [intBin, Option.bind_some, boolOf]
    cases e : t.k == k with
    | true => rw [cond_true, hstore_app, e2]; rfl
    | false => simp only [cond_false, Option.bind_some, Bool.false_or]; exact fold k h z l

theorem has_ends (t : Ty) (ok : t.small = true) (k : Int) (h : Heap) : Ends Try.prog 15 [.agg t.cells, .lit (.int .i64 k)] h (.ret (.lit (.bool (t.has k)))) h := by
  have hlen : (h ++ [[Cell.v (.lit (.int .i64 k))]]).length = h.length + 1 := by simp
  have hA := kA k h (.lit (.int .i64 t.k)) (.lit (.int .i64 t.n)) (.lit (.string t.name)) (.sl 1 (t.labels.map strC)) (.sl 5 (t.args.map Ty.cells))
  rw [← Ty.cells_eq, hlen] at hA
  have hB := kB ((h ++ [[Cell.v (.lit (.int .i64 k))]]) ++ [[.v (.lit (.bool false))]]) (.lit (.int .i64 t.k)) (.lit (.int .i64 t.n)) (.lit (.string t.name)) (.sl 1 (t.labels.map strC)) (.sl 5 (t.args.map Ty.cells)) h.length (h.length + 1)
  obtain ⟨z, hz⟩ : ∃ z : List Cell, z = [.v (.lit (.int .i64 t.k)), .v (.lit (.int .i64 t.n)), .v (.lit (.string t.name)), .v (.sl 1 (t.labels.map strC)), .v (.sl 5 (t.args.map Ty.cells))] := ⟨_, rfl⟩
  have hzc : z.map Cell.get = t.cells := by rw [hz, Ty.cells_eq]; rfl
  rw [← hz] at hA hB
  have e1 : ((h ++ [[Cell.v (.lit (.int .i64 k))]]) ++ [[.v (.lit (.bool false))]]) ++ [z] = h ++ ([.v (.lit (.int .i64 k))] :: [.v (.lit (.bool false))] :: [z]) := by simp
  have hf := fold k h [z] t.pre
  refine range_fn (E := E0) (call := call0) okE0 call0_ok (fn := Try.f15) Try.func15 (by kernel_rfl) (by rfl : Try.f15.body = some (.seq A (.seq (.seq B (.block 0 (.rangeFunc (.tmp 7) #[8] (asg rng) (bod rng)))) rest))) (H := HH) (n := 0) (Nat.le_of_ble_eq_true rfl) [2, 3, 4] hA [3, 4, 7] hB (L := [(3, hpS h.length), (4, hpS (h.length + 1))]) rfl (by decide) (by rfl) (fun i => ?_) rfl
    (W34.iter_ok (tr t ok) ?_) (by rw [e1]; exact hf) ?_
  · rcases i with _ | _ | _ | _ | _ | i <;> first | exact .inr rfl | exact .inl rfl
  · rw [List.getElem?_append_right (Nat.le_refl _), Nat.sub_self]
    show some (z.map Cell.get) = _
    rw [hzc]
  · have p1 : hpart false 1 0 1 ([.v (.lit (.int .i64 k))] :: [.v (.lit (.bool true))] :: [z]) = some (.lit (.bool true)) := rfl
    have p2 : hpart false 1 0 1 ([.v (.lit (.int .i64 k))] :: [.v (.lit (.bool false))] :: [z]) = some (.lit (.bool false)) := rfl
    have p3 : hstore ([.v (.lit (.int .i64 k))] :: [.v (.lit (.bool false))] :: [z]) 1 0 [.v (.lit (.bool false))] = some ([.v (.lit (.int .i64 k))] :: [.v (.lit (.bool false))] :: [z]) := rfl
    rw [Ty.has_pre]
    cases e : t.pre.any (fun x => x.k == k) with
    | true =>
      rw [if_pos rfl]
      refine (kF _ h h.length (h.length + 1) _).trans ?_
      rw [hpart_app, p1, Option.bind_some, trunc_app (H := HH) rfl (show Out.lt _ (.ret (.lit _)) from AV.lt.lit _)]
    | false =>
      rw [if_neg (by simp)]
      refine (kC _ h h.length (h.length + 1) _).trans ?_
      rw [hstore_app, p3, Option.map_some, Option.bind_some, hpart_app, p2, Option.bind_some, trunc_app (H := HH) rfl (show Out.lt _ (.ret (.lit _)) from AV.lt.lit _)]
end H34

def p15 : (Nat → List AV → Heap → R) → List AV → Heap → R := fun _ args h => match args with
  | [.agg cs, .lit (.int .i64 k)] => (decC cs).bind fun t => bif t.small then some (.ret (.lit (.bool (t.has k))), h) else none
  | _ => none
theorem p15_ok (call : Nat → List AV → Heap → R) (args : List AV) (h : Heap) (out : Out) (h' : Heap) (e : p15 call args h = some (out, h')) : Ends Try.prog 15 args h out h' := by
  unfold p15 at e
  split at e
  · rw [Option.bind_eq_some_iff] at e; obtain ⟨t, ht, e⟩ := e
    obtain ⟨hs, e⟩ := condE e
    have e := Option.some.inj e; cases e
    rw [decC_ok ht]
    exact H34.has_ends t hs _ _
  · cases e
theorem p15_run (call : Nat → List AV → Heap → R) (t : Ty) (ok : t.Ok) (k : Int) (h : Heap) : p15 call [.agg t.cells, .lit (.int .i64 k)] h = some (.ret (.lit (.bool (t.has k))), h) := by
  show ((decC t.cells).bind fun t => bif t.small then some (Out.ret (.lit (.bool (t.has k))), h) else none) = _
  rw [decC_cells, Option.bind_some, Ty.ok_small t ok]; rfl
end Go.Sh.T

/- ty.Nodes: a range over a function that counts, by its shadow. -/
namespace Go.Sh.T
set_option maxRecDepth 100000
set_option linter.unusedVariables false
set_option linter.unusedSimpArgs false
open Go Go.Sh Go.Proofs

namespace H34
namespace N
open W34 (Tr TrL pL pR)
noncomputable def body : Code := Try.f11.body.getD .skip
noncomputable def A := pL body
noncomputable def A2 := pL (pR body)
noncomputable def B := pL (pL (pR (pR body)))
noncomputable def rng := pL (pR (pL (pR (pR body))))
noncomputable def rest := pR (pR (pR body))
abbrev HH : FHint := { hb := [3], hp := [3] }
abbrev iv (n : Int) : Slot := .c (.v (.lit (.int .i64 n)))
section
variable (q0 q1 q2 q3 q4 : AV) (h : Heap)
theorem kA : evC E0 HH Try.f11.ntmps call0 0 A 0 { s := lkS (argSlots 0 [.agg [q0, q1, q2, q3, q4]]), h := h } (kL [1, 2]) kN = some ([(1, .loc ([q0, q1, q2, q3, q4].map .v)), (2, iv 0)], h) := by kernel_rfl
theorem kA2 (x : Slot) : evC E0 HH Try.f11.ntmps call0 0 A2 0 { s := lkS [(1, .loc ([q0, q1, q2, q3, q4].map .v)), (2, x)], h := h } (kL [1, 3]) kN = (hstore (h ++ ([[.v (.lit (.int .i64 0))]] : Heap)) h.length 0 [.v (.lit (.int .i64 0))]).bind fun h2 => some ([(1, .loc ([q0, q1, q2, q3, q4].map .v)), (3, hpS h.length)], h2) := by kernel_rfl
theorem kB (i : Nat) : evC E0 HH Try.f11.ntmps call0 0 B 0 { s := lkS [(1, .loc ([q0, q1, q2, q3, q4].map .v)), (3, hpS i)], h := h } (kL [3, 5]) kN = some ([(3, hpS i), (5, fnC h.length)], h ++ [[q0, q1, q2, q3, q4].map .v]) := by kernel_rfl
theorem kR (i : Nat) (x : AV) : roundE E0 HH Try.f11.ntmps call0 0 (lkS [(3, hpS i)]) 6 (asg rng) (bod rng) x h =
    (hpart false 1 0 i h).bind fun v => (binAV E0 .add 3 v (.lit (.int .i64 1))).bind fun r => cond (AV.one r) ((hstore h i 0 [.v r]).bind fun h2 => some (none, h2)) none := by kernel_rfl
theorem kC (h0 : Heap) (i : Nat) (f : Slot) : evC E0 HH Try.f11.ntmps call0 0 rest 0 { s := lkS [(3, hpS i), (5, f)], h := h } (fun e st' => match e with | .exit _ => none | _ => finish E0 HH Try.f11 h0 st') (fun _ _ => none) =
    (hpart false 1 0 i h).bind fun a => trunc HH h0 (.ret a) h := by kernel_rfl
end
def cntW : List AV → Int → Int
  | [], n => n
  | _ :: r, n => cntW r (IntKind.i64.wrap (n + 1))
theorem fold (h : Heap) (z : List (List Cell)) : ∀ (l : List AV) (n : Int), foldR (roundE E0 HH Try.f11.ntmps call0 0 (lkS [(3, hpS h.length)]) 6 (asg rng) (bod rng)) l (h ++ ([.v (.lit (.int .i64 n))] :: z)) = some (none, h ++ ([.v (.lit (.int .i64 (cntW l n)))] :: z))
  | [], n => rfl
  | x :: l, n => by
    rw [foldR, kR, hpart_app0, show hpart false 1 0 0 ([.v (.lit (.int .i64 n))] :: z) = some (.lit (.int .i64 n)) from rfl, bind_some', bin_int, show intBin .add .i64 n 1 = some (.lit (.int .i64 (IntKind.i64.wrap (n + 1)))) from rfl, bind_some', show AV.one (.lit (.int .i64 (IntKind.i64.wrap (n + 1)))) = true from rfl, condT, hstore_app0, show hstore ([.v (.lit (.int .i64 n))] :: z) 0 0 [.v (.lit (.int .i64 (IntKind.i64.wrap (n + 1))))] = some ([.v (.lit (.int .i64 (IntKind.i64.wrap (n + 1))))] :: z) from rfl]
    exact fold h z l _
theorem ends (t : Ty) (ok : t.small = true) (h : Heap) : Ends Try.prog 11 [.agg t.cells] h (.ret (.lit (.int .i64 (cntW (t.pre.map fun x => .agg x.cells) 0)))) h := by
  have h1 := kA (.lit (.int .i64 t.k)) (.lit (.int .i64 t.n)) (.lit (.string t.name)) (.sl 1 (t.labels.map strC)) (.sl 5 (t.args.map Ty.cells)) h
  have h2 := kA2 (.lit (.int .i64 t.k)) (.lit (.int .i64 t.n)) (.lit (.string t.name)) (.sl 1 (t.labels.map strC)) (.sl 5 (t.args.map Ty.cells)) h (iv 0)
  rw [hstore_app0, show hstore ([[.v (.lit (.int .i64 0))]] : Heap) 0 0 [.v (.lit (.int .i64 0))] = some [[.v (.lit (.int .i64 0))]] from rfl] at h2
  have h3 := kB (.lit (.int .i64 t.k)) (.lit (.int .i64 t.n)) (.lit (.string t.name)) (.sl 1 (t.labels.map strC)) (.sl 5 (t.args.map Ty.cells)) (h ++ [[.v (.lit (.int .i64 0))]]) h.length
  rw [← Ty.cells_eq] at h1 h2 h3
  have hf := fold h [t.cells.map .v] (t.pre.map fun x => .agg x.cells) 0
  have e1 : (h ++ [[Cell.v (.lit (.int .i64 0))]]) ++ [t.cells.map Cell.v] = h ++ ([.v (.lit (.int .i64 0))] :: [t.cells.map Cell.v]) := by simp
  refine range_fn2 (E := E0) (call := call0) okE0 call0_ok (fn := Try.f11) Try.func11 (by kernel_rfl) (by rfl : Try.f11.body = some (.seq A (.seq A2 (.seq (.seq B (.block 0 (.rangeFunc (.tmp 5) #[6] (asg rng) (bod rng)))) rest)))) (H := HH) (n := 0) (Nat.le_of_ble_eq_true rfl) [1, 2] h1 [1, 3] h2 [3, 5] h3 (L := [(3, hpS h.length)]) rfl (by decide) (by rfl) (fun i => ?_) rfl
    (W34.iter_ok (tr t ok) ?_) (by rw [e1]; exact hf) ?_
  · rcases i with _ | _ | _ | _ | i <;> first | exact .inr rfl | exact .inl rfl
  · rw [List.getElem?_append_right (Nat.le_refl _), Nat.sub_self]
    show some ((t.cells.map Cell.v).map Cell.get) = _
    rw [List.map_map, show Cell.get ∘ Cell.v = id from rfl, List.map_id]
  · refine (kC _ h h.length _).trans ?_
    rw [hpart_app0, show ∀ z : List (List Cell), hpart false 1 0 0 ([.v (.lit (.int .i64 (cntW (t.pre.map fun x => .agg x.cells) 0)))] :: z) = some (.lit (.int .i64 (cntW (t.pre.map fun x => .agg x.cells) 0))) from fun z => rfl, bind_some']
    exact trunc_app (H := HH) rfl (show Out.lt _ (.ret (.lit _)) from AV.lt.lit _)
end N
end H34
def p11 : (Nat → List AV → Heap → R) → List AV → Heap → R := fun _ args h => match args with
  | [.agg cs] => (decC cs).bind fun t => bif t.small then some (.ret (.lit (.int .i64 (H34.N.cntW (t.pre.map fun x => .agg x.cells) 0))), h) else none
  | _ => none
theorem p11_ok (call : Nat → List AV → Heap → R) (args : List AV) (h : Heap) (out : Out) (h' : Heap) (e : p11 call args h = some (out, h')) : Ends Try.prog 11 args h out h' := by
  unfold p11 at e
  split at e
  · rw [Option.bind_eq_some_iff] at e; obtain ⟨t, ht, e⟩ := e
    obtain ⟨hs, e⟩ := condE e
    have e := Option.some.inj e; cases e
    rw [decC_ok ht]
    exact H34.N.ends t hs _
  · cases e
theorem p11_run (call : Nat → List AV → Heap → R) (t : Ty) (ok : t.Ok) (h : Heap) : p11 call [.agg t.cells] h = some (.ret (.lit (.int .i64 (H34.N.cntW (t.pre.map fun x => .agg x.cells) 0))), h) := by
  show ((decC t.cells).bind fun t => bif t.small then some (Out.ret (.lit (.int .i64 (H34.N.cntW (t.pre.map fun x => .agg x.cells) 0))), h) else none) = _
  rw [decC_cells, Option.bind_some, Ty.ok_small t ok]; rfl
end Go.Sh.T

/- ty.Vars: texts gathered by a range over a function, sorted, compacted. -/
namespace Go.Sh.T
set_option maxRecDepth 1000000
set_option linter.unusedVariables false
set_option linter.unusedSimpArgs false
open Go Go.Sh Go.Proofs Go.Shelf

def laysSort_ren : Shelf.Ren := { f := fun x => match x with | 190 => 39 | 125 => 56 | 258 => 55 | 128 => 73 | 129 => 74 | 302 => 64 | 303 => 65 | 304 => 66 | 305 => 67 | 306 => 68 | 307 => 69 | 308 => 70 | 309 => 71 | 310 => 72 | 333 => 81 | 329 => 82 | 330 => 83 | 334 => 84 | 335 => 85 | 336 => 86 | 344 => 89 | n => n, t := fun x => match x with | 31 => 22 | 9 => 9 | 3 => 3 | 46 => 62 | 0 => 0 | 51 => 76 | 53 => 78 | 4 => 4 | 183 => 68 | 182 => 67 | 131 => 73 | 5 => 5 | 218 => 82 | 222 => 86 | 228 => 88 | 229 => 89 | n => n, g := fun n => n }
theorem laysSort : Lays.n190 Try.prog laysSort_ren :=
  { mixed := by kernel_rfl, f125 := Eq.trans Try.func56 (congrArg some (by kernel_rfl)), f128 := Eq.trans Try.func73 (congrArg some (by kernel_rfl)), f129 := Eq.trans Try.func74 (congrArg some (by kernel_rfl)), f190 := Eq.trans Try.func39 (congrArg some (by kernel_rfl)), f258 := Eq.trans Try.func55 (congrArg some (by kernel_rfl)), f302 := Eq.trans Try.func64 (congrArg some (by kernel_rfl)), f303 := Eq.trans Try.func65 (congrArg some (by kernel_rfl)), f304 := Eq.trans Try.func66 (congrArg some (by kernel_rfl)), f305 := Eq.trans Try.func67 (congrArg some (by kernel_rfl)), f306 := Eq.trans Try.func68 (congrArg some (by kernel_rfl)), f307 := Eq.trans Try.func69 (congrArg some (by kernel_rfl)), f308 := Eq.trans Try.func70 (congrArg some (by kernel_rfl)), f309 := Eq.trans Try.func71 (congrArg some (by kernel_rfl)), f310 := Eq.trans Try.func72 (congrArg some (by kernel_rfl)), f329 := Eq.trans Try.func82 (congrArg some (by kernel_rfl)), f330 := Eq.trans Try.func83 (congrArg some (by kernel_rfl)), f333 := Eq.trans Try.func81 (congrArg some (by kernel_rfl)), f334 := Eq.trans Try.func84 (congrArg some (by kernel_rfl)), f335 := Eq.trans Try.func85 (congrArg some (by kernel_rfl)), f336 := Eq.trans Try.func86 (congrArg some (by kernel_rfl)), f344 := Eq.trans Try.func89 (congrArg some (by kernel_rfl)), t0 := Try.underlying0, a0 := Try.isAgg0, z0 := Try.sizeOf0, v0 := Try.zeroValue0, t3 := Try.underlying3, a3 := Try.isAgg3, z3 := Try.sizeOf3, v3 := Try.zeroValue3, t4 := Try.underlying4, a4 := Try.isAgg4, z4 := Try.sizeOf4, v4 := Try.zeroValue4, t5 := Try.underlying5, a5 := Try.isAgg5, z5 := Try.sizeOf5, v5 := Try.zeroValue5, t9 := Try.underlying9, a9 := Try.isAgg9, z9 := Try.sizeOf9, v9 := Try.zeroValue9, t31 := Try.underlying22, a31 := Try.isAgg22, z31 := Try.sizeOf22, v31 := Try.zeroValue22, t46 := Try.underlying62, a46 := Try.isAgg62, z46 := Try.sizeOf62, v46 := Try.zeroValue62, t51 := Try.underlying76, a51 := Try.isAgg76, z51 := Try.sizeOf76, v51 := Try.zeroValue76, t53 := Try.underlying78, a53 := Try.isAgg78, z53 := Try.sizeOf78, v53 := Try.zeroValue78, t131 := Try.underlying73, a131 := Try.isAgg73, z131 := Try.sizeOf73, v131 := Try.zeroValue73, t182 := Try.underlying67, a182 := Try.isAgg67, z182 := Try.sizeOf67, v182 := Try.zeroValue67, t183 := Try.underlying68, a183 := Try.isAgg68, z183 := Try.sizeOf68, v183 := Try.zeroValue68, t218 := Try.underlying82, a218 := Try.isAgg82, z218 := Try.sizeOf82, v218 := Try.zeroValue82, t222 := Try.underlying86, a222 := Try.isAgg86, z222 := Try.sizeOf86, v222 := Try.zeroValue86, t228 := Try.underlying88, a228 := Try.isAgg88, z228 := Try.sizeOf88, v228 := Try.zeroValue88, t229 := Try.underlying89, a229 := Try.isAgg89, z229 := Try.sizeOf89, v229 := Try.zeroValue89 }
def laysCompact_ren : Shelf.Ren := { f := fun x => match x with | 194 => 40 | n => n, t := fun x => match x with | 31 => 22 | 9 => 9 | 3 => 3 | 4 => 4 | 0 => 0 | n => n, g := fun n => n }
theorem laysCompact : Lays.n194 Try.prog laysCompact_ren :=
  { mixed := by kernel_rfl, f194 := Eq.trans Try.func40 (congrArg some (by kernel_rfl)), t0 := Try.underlying0, a0 := Try.isAgg0, z0 := Try.sizeOf0, v0 := Try.zeroValue0, t3 := Try.underlying3, a3 := Try.isAgg3, z3 := Try.sizeOf3, v3 := Try.zeroValue3, t4 := Try.underlying4, a4 := Try.isAgg4, z4 := Try.sizeOf4, v4 := Try.zeroValue4, t9 := Try.underlying9, a9 := Try.isAgg9, z9 := Try.sizeOf9, v9 := Try.zeroValue9, t31 := Try.underlying22, a31 := Try.isAgg22, z31 := Try.sizeOf22, v31 := Try.zeroValue22 }
theorem sort37 {w : World} {x : Value} {l : List ByteArray} (h : OwnVal w x l) (hl : l.length < 4611686018427387904) :
    Calls Try.prog 39 #[x] w fun e w' => e = .returned (.tuple #[]) ∧ OwnVal w' x (sortL l) ∧ Turned w w' (blockV x) := sortC laysSort h hl
theorem compact38 {w : World} {x : Value} {l : List ByteArray} (h : OwnVal w x l) (hl : l.length < 4611686018427387904) :
    Calls Try.prog 40 #[x] w fun e w' => ∃ v, e = .returned v ∧ OwnVal w' v (compactL l) ∧ (∀ k, blockV v = some k → blockV x = some k) ∧ Turned w w' (blockV x) := compactC laysCompact h hl
theorem callable {f : Nat} {fn : Func} (h : Try.prog.funcs[f]? = some fn) (h1 : (fn.name == "runtime.NumGoroutine") = false) (h2 : fn.body.isSome = true) : Callable Try.prog f := ⟨fn, h, h1, h2⟩
theorem calb37 : Callable Try.prog 39 := callable Try.func39 (by kernel_rfl) rfl
theorem calb38 : Callable Try.prog 40 := callable Try.func40 (by kernel_rfl) rfl
namespace SET
def opsOf : Code → Array Oper
  | .region _ ops _ => ops
  | _ => #[]
theorem getT (a : Array Value) (t : Nat) (v : Value) (ht : t < a.size) : (a.setIfInBounds t v).getD t undef = v := by rw [getD_put _ _ _ _ ht, if_pos rfl]
theorem getN (a : Array Value) (t u : Nat) (v : Value) (ht : t < a.size) (hn : u ≠ t) : (a.setIfInBounds t v).getD u undef = a.getD u undef := by rw [getD_put _ _ _ _ ht, if_neg hn]
theorem eval_tmp (a : Act) (t : Nat) : a.eval (.tmp t) = a.tmps.getD t undef := rfl
theorem put_get (a : Act) (t : Nat) (v : Value) (ht : t < a.tmps.size) : (a.put (some t) v).tmps.getD t undef = v := getT a.tmps t v ht
theorem put_ne (a : Act) (t u : Nat) (v : Value) (ht : t < a.tmps.size) (hn : u ≠ t) : (a.put (some t) v).tmps.getD u undef = a.tmps.getD u undef := getN a.tmps t u v ht hn
theorem put_size (a : Act) (t : Nat) (v : Value) : (a.put (some t) v).tmps.size = a.tmps.size := by show (a.tmps.setIfInBounds t v).size = _; simp
/-- One call of a function of one slot. -/
theorem step_call1 {P : Program} {w : World} {a : Act} {ops : Array Oper} {i f t : Nat} {o : Oper} (hi : ops[i]? = some o) (hg : o.guard = none) (hc : ∃ c, o.op = .call c ∧ c.callee = .value (.func f) ∧ c.args = #[.tmp t]) (hcb : Callable P f) {x : Value} (hx : a.tmps.getD t undef = x)
    {R : Ending → World → Prop} (hcl : Calls P f #[x] w R) {K : Act → World → Prop} {Q : Exit → Act → World → Prop} (hR : ∀ e w', R e w' → ∃ v, e = .returned v ∧ K (a.put o.dst v) w') : wpOpIn (FF none) 0 P ops Q i K a w := by
  obtain ⟨c, h1, h2, h3⟩ := hc
  refine step_callX hi hg h1 h2 hcb (R := R) ?_ hR
  rw [h3, show (#[Operand.tmp t] : Array Operand).map a.eval = #[x] from by rw [← hx, List.map_toArray]; rfl]
  exact hcl
end SET

/-- Gathered texts, sorted and compacted. -/
theorem tail5 {a : Act} {w : World} {e1 e2 : Nat} {ops ops2 : Array Oper} {i0 i1 j0 j1 j2 : Oper} (h0 : ops[0]? = some i0) (h1 : ops[1]? = some i1) (hs : ops.size = 2) (h2 : ops2[0]? = some j0) (h3 : ops2[1]? = some j1) (h4 : ops2[2]? = some j2) (hs2 : ops2.size = 3)
    (g0 : i0.guard = none) (g1 : i1.guard = none) (g2 : j0.guard = none) (g3 : j1.guard = none) (g4 : j2.guard = none) {p t u v y r : Nat}
    (p0 : i0.op = .load 22 (.tmp p)) (d0 : i0.dst = some t) (p1 : ∃ c, i1.op = .call c ∧ c.callee = .value (.func 39) ∧ c.args = #[.tmp t]) (d1 : i1.dst = some u)
    (p2 : j0.op = .load 22 (.tmp p)) (d2 : j0.dst = some v) (p3 : ∃ c, j1.op = .call c ∧ c.callee = .value (.func 40) ∧ c.args = #[.tmp v]) (d3 : j1.dst = some y) (p4 : j2.op = .assign (.tmp y)) (d4 : j2.dst = some r)
    (ht : t < a.tmps.size) (hu : u < a.tmps.size) (hv : v < a.tmps.size) (hy : y < a.tmps.size) (hr : r < a.tmps.size) (npt : p ≠ t) (npu : p ≠ u)
    {bo : Nat} {arr : Array Value} {T : TypeId} {x : Value} (hp : a.tmps.getD p undef = .pointer (some ⟨bo, 0, none⟩)) (hb : w.heap[bo]? = some (.cells arr T (0, 0))) (hx : arr[0]? = some x) {l : List ByteArray} (hl0 : OwnVal w x l) (hl : l.length < 4611686018427387904) (hbx : ∀ b, blockV x = some b → b ≠ bo)
    {Q : Exit → Act → World → Prop} (hQ : ∀ a' w' z, a'.tmps.getD r undef = z → a'.defers = a.defers → OwnVal w' z (riseL l) → (∀ k, blockV z = some k → blockV x = some k) → Turned w w' (blockV x) → Q .ret a' w') : (Code.seq (.region e1 ops false) (.seq (.region e2 ops2 false) .ret)).wpIn (FF none) 0 Try.prog Q a w := by
  have tok : TyOk Try.prog 22 ti22 := tok22
  refine wpIn_seq (wpIn_region ?_)
  rw [hs, show List.range 2 = [0, 1] from rfl, wpOpsIn_cons]
  refine step_pureX h0 g0 (fun c hc => by rw [p0] at hc; cases hc) (run_load1 tok rfl p0 (b := bo) (off := 0) (by rw [SET.eval_tmp, hp]) hb hx) ?_
  rw [d0, wpOpsIn_cons]
  refine SET.step_call1 h1 g1 p1 calb37 (SET.put_get _ _ _ ht) (sort37 hl0 hl) ?_
  rintro e w1 ⟨rfl, k1, t1⟩
  refine ⟨_, rfl, ?_⟩
  rw [d1]
  obtain ⟨a1, ha1⟩ : ∃ a1, a1 = (a.put (some t) x).put (some u) (.tuple #[]) := ⟨_, rfl⟩
  have s1 : a1.tmps.size = a.tmps.size := by rw [ha1, SET.put_size, SET.put_size]
  have x1 : a1.tmps.getD p undef = .pointer (some ⟨bo, 0, none⟩) := by rw [ha1, SET.put_ne _ _ _ _ (by rw [SET.put_size]; exact hu) npu, SET.put_ne _ _ _ _ ht npt, hp]
  have dd1 : a1.defers = a.defers := by rw [ha1, put_defers, put_defers]
  rw [← ha1]
  show Code.wpIn _ _ _ _ _ _ _
  refine wpIn_seq (wpIn_region ?_)
  rw [hs2, show List.range 3 = [0, 1, 2] from rfl, wpOpsIn_cons]
  have hb1 : w1.heap[bo]? = some (.cells arr T (0, 0)) := (t1.same bo (lt_of_heap hb) (fun e => hbx bo e rfl)).trans hb
  refine step_pureX h2 g2 (fun c hc => by rw [p2] at hc; cases hc) (run_load1 tok rfl p2 (b := bo) (off := 0) (by rw [SET.eval_tmp, x1]) hb1 hx) ?_
  rw [d2, wpOpsIn_cons]
  refine SET.step_call1 h3 g3 p3 calb38 (SET.put_get _ _ _ (by rw [s1]; exact hv)) (compact38 k1 (by rw [sortL_len]; exact hl)) ?_
  rintro e w2 ⟨z, rfl, k2, k3, t2⟩
  refine ⟨z, rfl, ?_⟩
  rw [d3, wpOpsIn_cons]
  refine step_pureX (v := z) h4 g4 (fun c hc => by rw [p4] at hc; cases hc) (by rw [run_assign p4, SET.eval_tmp, SET.put_get _ _ _ (by rw [SET.put_size, s1]; exact hy)]) ?_
  rw [d4]
  rw [compact_sort] at k2
  show Code.wpIn _ _ _ _ _ _ _
  refine wpIn_ret ?_
  exact hQ _ w2 z (SET.put_get _ _ _ (by rw [SET.put_size, SET.put_size, s1]; exact hr)) (by rw [put_defers, put_defers, put_defers, dd1]) k2 k3 (t1.trans t2)
theorem res_tmp {fn : Func} {r : Nat} (h : fn.results.toList = [.tmp r]) {tmps : Array Value} {w : World} {v : Value} (hv : tmps.getD r undef = v) : (results fn tmps).run Try.prog w = .ok v w := by
  have hrun : (fn.results.toList.mapM (rdOne E0.P tmps)).run E0.P w = .ok [v] w := by
    rw [h]
    simp [rdOne, hv]
  exact results_run (E := E0) hrun
theorem own_put {w : World} {D : Nat} {m : List Deferred} {y : Obj} (hD : w.heap[D]? = some (.deferred (some m))) {v : Value} {l : List ByteArray} (h : OwnVal w v l) : OwnVal (w.putObj D y) v l := by
  rcases h with h | ⟨b, cap, arr, T, h1, h2, h3⟩
  · exact .inl h
  · refine .inr ⟨b, cap, arr, T, h1, ?_, h3⟩
    have : b ≠ D := fun e => by rw [e, hD] at h2; cases h2
    exact (put_other this).trans h2

namespace H34
namespace V
open W34 (Tr TrL pL pR)
noncomputable def body : Code := Try.f18.body.getD .skip
noncomputable def A := pL body
noncomputable def A2 := pL (pR body)
noncomputable def B := pL (pL (pR (pR body)))
noncomputable def rng := pL (pR (pL (pR (pR body))))
noncomputable def rest := pR (pR (pR body))
abbrev HH : FHint := { hb := [3], hp := [3], tr := [11], base := [(8, 4), (12, 4)] }
section
variable (q0 q1 q2 q3 q4 : AV) (h : Heap)
theorem kA : evC E0 HH Try.f18.ntmps call0 0 A 0 { s := lkS (argSlots 0 [.agg [q0, q1, q2, q3, q4]]), h := h } (kL [1]) kN = some ([(1, .loc ([q0, q1, q2, q3, q4].map .v))], h) := by kernel_rfl
theorem kA2 : evC E0 HH Try.f18.ntmps call0 0 A2 0 { s := lkS [(1, .loc ([q0, q1, q2, q3, q4].map .v))], h := h } (kL [1, 3]) kN = some ([(1, .loc ([q0, q1, q2, q3, q4].map .v)), (3, hpS h.length)], h ++ ([[.own 1 []]] : Heap)) := by kernel_rfl
theorem kB (i : Nat) : evC E0 HH Try.f18.ntmps call0 0 B 0 { s := lkS [(1, .loc ([q0, q1, q2, q3, q4].map .v)), (3, hpS i)], h := h } (kL [3, 6]) kN = some ([(3, hpS i), (6, fnC h.length)], h ++ [[q0, q1, q2, q3, q4].map .v]) := by kernel_rfl
def addN (s : ByteArray) (i : Nat) (h : Heap) : Option (Option Code × Heap) :=
  (htake h i 0).bind fun q => cond (Nat.beq q.1.1 1 && Nat.ble (q.1.2.length + ([[.lit (.string s)]] : List (List AV)).length) maxApp) ((hstore q.2 i 0 [.own 1 (q.1.2 ++ [[.lit (.string s)]])]).bind fun h2 => some (none, h2)) none
theorem kR (i : Nat) (k : Int) (s : ByteArray) : roundE E0 HH Try.f18.ntmps call0 0 (lkS [(3, hpS i)]) 7 (asg rng) (bod rng) (.agg [.lit (.int .i64 k), q1, .lit (.string s), q3, q4]) h =
    cond (k == 6) (addN s i h) (some (none, h)) := by kernel_rfl
end
/-- The variables in a type, one by one. -/
def names (t : Ty) : List (List AV) := (t.pre.filter fun x => x.k == 6).map fun x => [.lit (.string x.name)]
theorem add_own (h : Heap) (z : List (List Cell)) (acc : List (List AV)) (s : ByteArray) (hm : acc.length + 1 ≤ maxApp) : addN s h.length (h ++ ([.own 1 acc] :: z)) = some (none, h ++ ([.own 1 (acc ++ [[.lit (.string s)]])] :: z)) := by
  unfold addN
  have e1 : htake (h ++ ([.own 1 acc] :: z)) h.length 0 = some ((1, acc), h ++ ([.v .dead] :: z)) := by
    unfold htake
    rw [List.getElem?_append_right (Nat.le_refl _), Nat.sub_self]
    simp
  rw [e1, bind_some', hstore_app0, show hstore ([.v .dead] :: z) 0 0 [.own 1 (acc ++ [[.lit (.string s)]])] = some ([.own 1 (acc ++ [[.lit (.string s)]])] :: z) from rfl, Option.map_some, bind_some']
  rw [show (Nat.beq 1 1 && Nat.ble (acc.length + ([[(.lit (.string s) : AV)]] : List (List AV)).length) maxApp) = true from by rw [show Nat.beq 1 1 = true from rfl, Bool.true_and, Nat.ble_eq]; exact hm, condT]
theorem fold (h : Heap) (z : List (List Cell)) : ∀ (l : List Ty) (acc : List (List AV)), acc.length + ((l.filter fun x => x.k == 6).map fun x => [(AV.lit (.string x.name))]).length ≤ maxApp → foldR (roundE E0 HH Try.f18.ntmps call0 0 (lkS [(3, hpS h.length)]) 7 (asg rng) (bod rng)) (l.map fun x => .agg x.cells) (h ++ ([.own 1 acc] :: z)) = some (none, h ++ ([.own 1 (acc ++ (l.filter fun x => x.k == 6).map fun x => [.lit (.string x.name)])] :: z))
  | [], acc, _ => by rw [show (acc ++ (([] : List Ty).filter fun x => x.k == 6).map fun x => [(AV.lit (.string x.name))]) = acc from List.append_nil acc]; rfl
  | t :: l, acc, hm => by
    rw [List.map_cons, foldR, Ty.cells_eq, kR]
    cases hk : t.k == 6 with
    | false =>
      rw [List.filter_cons, hk] at hm ⊢
      rw [condF]
      exact fold h z l acc hm
    | true =>
      rw [List.filter_cons, hk, if_pos rfl, List.map_cons] at hm ⊢
      rw [List.length_cons] at hm
      rw [condT, add_own h z acc t.name (by omega)]
      have ih := fold h z l (acc ++ [[.lit (.string t.name)]]) (by rw [List.length_append, List.length_cons, List.length_nil]; omega)
      rw [List.append_assoc] at ih
      exact ih

def nameL (t : Ty) : List ByteArray := (t.pre.filter fun x => x.k == 6).map Ty.name
theorem names_eq (t : Ty) : names t = (nameL t).map fun s => [AV.lit (.string s)] := by unfold names nameL; rw [List.map_map]; rfl
theorem strs_lt (m : List ByteArray) : AV.lt 0 (.sl 1 (m.map strC)) := ltA_ok (by
  rw [ltA]
  induction m with
  | nil => rfl
  | cons x m ih => rw [List.map_cons, ltE, ih]; rfl)
theorem ends (t : Ty) (ok : t.small = true) (hm : (nameL t).length ≤ maxApp) (hl : ltL 0 t.cells = true) (hh : Heap) : Ends Try.prog 18 [.agg t.cells] hh (.ret (.sl 1 ((riseL (nameL t)).map strC))) hh := by
  refine lone (callable Try.func18 (by kernel_rfl) rfl) (fun a ha => by rw [List.mem_singleton.1 ha]; exact .agg (ltL_ok hl)) (strs_lt _) (fun w argv hr => ?_) hh
  have h1 := kA (.lit (.int .i64 t.k)) (.lit (.int .i64 t.n)) (.lit (.string t.name)) (.sl 1 (t.labels.map strC)) (.sl 5 (t.args.map Ty.cells)) []
  have h2 := kA2 (.lit (.int .i64 t.k)) (.lit (.int .i64 t.n)) (.lit (.string t.name)) (.sl 1 (t.labels.map strC)) (.sl 5 (t.args.map Ty.cells)) []
  have h3 := kB (.lit (.int .i64 t.k)) (.lit (.int .i64 t.n)) (.lit (.string t.name)) (.sl 1 (t.labels.map strC)) (.sl 5 (t.args.map Ty.cells)) ([] ++ [[.own 1 []]]) 0
  rw [← Ty.cells_eq] at h1 h2 h3
  have hf := fold [] [t.cells.map .v] t.pre [] (by
    have : ((t.pre.filter fun x => x.k == 6).map fun x => [(AV.lit (.string x.name))]).length = (nameL t).length := by unfold nameL; rw [List.length_map, List.length_map]
    rw [List.length_nil, Nat.zero_add, this]; exact hm)
  rw [List.nil_append, show ((t.pre.filter fun x => x.k == 6).map fun x => [(AV.lit (.string x.name))]) = (nameL t).map (fun s => [AV.lit (.string s)]) from names_eq t] at hf
  refine range_fnT (E := E0) (call := call0) okE0 call0_ok (fn := Try.f18) Try.func18 (by rfl : Try.f18.body = some (.seq A (.seq A2 (.seq (.seq B (.block 0 (.rangeFunc (.tmp 6) #[7] (asg rng) (bod rng)))) rest)))) (H := HH) (n := 0) (Nat.le_of_ble_eq_true rfl) [1] h1 [1, 3] h2 [3, 6] h3 (L := [(3, hpS 0)]) rfl (by decide) (by rfl) (fun i => ?_) rfl
    (W34.iter_ok (tr t ok) ?_) (d := 0) hf hr (heap_all w) (within_all w) fun D G3 w3 a3 hD hge r3 n3 f3 hd3 => ?_
  · rcases i with _ | _ | _ | _ | i <;> first | exact .inr rfl | exact .inl rfl
  · show some ((t.cells.map Cell.v).map Cell.get) = _
    rw [List.map_map, show Cell.get ∘ Cell.v = id from rfl, List.map_id]
  · rw [List.nil_append] at r3
    obtain ⟨bo, arr, T, x, k1, k2, k3, k4, k5, k6⟩ := own_out f3 r3 (t := 3) (i := 0) rfl (l := nameL t) rfl
    have hb : rest = .seq (pL rest) (.seq (pL (pR rest)) .ret) := by rfl
    rw [hb]
    have hml : (nameL t).length < 4611686018427387904 := Nat.lt_of_le_of_lt hm (by decide)
    change (Code.seq (.region _ (SET.opsOf (pL rest)) false) (.seq (.region _ (SET.opsOf (pL (pR rest))) false) .ret)).wpIn _ _ _ _ _ _
    refine tail5 (i0 := (SET.opsOf (pL rest)).getD 0 default) (i1 := (SET.opsOf (pL rest)).getD 1 default) (j0 := (SET.opsOf (pL (pR rest))).getD 0 default) (j1 := (SET.opsOf (pL (pR rest))).getD 1 default) (j2 := (SET.opsOf (pL (pR rest))).getD 2 default) (p := 3) (t := 16) (u := 17) (v := 18) (y := 19) (r := 2)
      rfl rfl rfl rfl rfl rfl rfl rfl rfl rfl rfl rfl rfl rfl ⟨_, rfl, rfl, rfl⟩ rfl rfl rfl ⟨_, rfl, rfl, rfl⟩ rfl rfl rfl (by rw [n3]; decide) (by rw [n3]; decide) (by rw [n3]; decide) (by rw [n3]; decide) (by rw [n3]; decide) (by decide) (by decide) k1 k3 k4 k5 hml (fun b hb => (k6 b hb).2) ?_
    intro a' w' v j1 j2 j3 j4 j5
    have hD' : w'.heap[D]? = some (.deferred (some [])) := by
      refine (j5.same D (lt_of_heap hD) fun e => ?_).trans hD
      rcases k5 with ⟨rfl, _⟩ | ⟨b, cap, arr2, T2, rfl, m1, _⟩
      · cases e
      · cases e; rw [hD] at m1; cases m1
    show LeavesInM _ _ _ _ a'.tmps _ a'.defers _ _
    rw [j2, hd3]
    refine LeavesInM.of_mark hD' (res_tmp (r := 2) rfl j1) ?_
    have hblk : ∀ b, blockV v = some b → w.heap.size ≤ b := fun b hb => (k6 b (j4 b hb)).1
    obtain ⟨z, hz⟩ := lone_end f3 j5 (fun b hb => (k6 b hb).1) j3 hblk
    have hput : Turned w' (w'.putObj D (.deferred none)) (some D) := ⟨rfl, rfl, rfl, by simp, fun k hk hp => put_other (fun e => hp (by rw [e]))⟩
    have t2 : LoneEnd w (.sl 1 ((riseL (nameL t)).map fun s => [AV.lit (.string s)])) (.returned v) (w'.putObj D (.deferred none)) := by
      have f3' : w'.os = w.os ∧ w'.tape = w.tape ∧ w'.output = w.output ∧ w.heap.size ≤ w'.heap.size ∧ ∀ b, b < w.heap.size → w'.heap[b]? = w.heap[b]? := ⟨hz.2.1, hz.2.2.1, hz.2.2.2.1, hz.2.2.2.2.1, hz.2.2.2.2.2.1⟩
      exact lone_end2 f3'.1 f3'.2.1 f3'.2.2.1 f3'.2.2.2.1 f3'.2.2.2.2 hput (fun b hb => by cases hb; exact hge) (own_put hD' j3) hblk
    exact t2
end V
end H34
def p18 : (Nat → List AV → Heap → R) → List AV → Heap → R := fun _ args h => match args with
  | [.agg cs] => (decC cs).bind fun t => bif t.small && (ltL 0 cs && Nat.ble (H34.V.nameL t).length maxApp) then some (.ret (.sl 1 ((riseL (H34.V.nameL t)).map strC)), h) else none
  | _ => none
theorem p18_ok (call : Nat → List AV → Heap → R) (args : List AV) (h : Heap) (out : Out) (h' : Heap) (e : p18 call args h = some (out, h')) : Ends Try.prog 18 args h out h' := by
  unfold p18 at e
  split at e
  · rw [Option.bind_eq_some_iff] at e; obtain ⟨t, ht, e⟩ := e
    obtain ⟨hs, e⟩ := condE e
    rw [Bool.and_eq_true, Bool.and_eq_true] at hs
    have e := Option.some.inj e; cases e
    have hc := decC_ok ht
    rw [hc] at hs ⊢
    exact H34.V.ends t hs.1 (Nat.le_of_ble_eq_true hs.2.2) hs.2.1 _
  · cases e
end Go.Sh.T

/- ty.Fits: a range over a function that counts and may stop, by its shadow. -/
namespace Go.Sh.T
set_option maxRecDepth 100000
set_option linter.unusedVariables false
set_option linter.unusedSimpArgs false
open Go Go.Sh Go.Proofs

namespace H34
namespace F
open W34 (Tr TrL pL pR)
noncomputable def body : Code := Try.f20.body.getD .skip
noncomputable def A := pL body
noncomputable def A2 := pL (pR body)
noncomputable def B := pL (pL (pR (pR body)))
noncomputable def rng := pL (pR (pL (pR (pR body))))
noncomputable def rest := pR (pR (pR body))
abbrev HH : FHint := { hb := [2, 3], hp := [2, 3] }
section
variable (q0 q1 q2 q3 q4 : AV) (h : Heap)
theorem kA : evC E0 HH Try.f20.ntmps call0 0 A 0 { s := lkS (argSlots 0 [.agg [q0, q1, q2, q3, q4]]), h := h } (kL [1, 2]) kN = some ([(1, .loc ([q0, q1, q2, q3, q4].map .v)), (2, hpS h.length)], h ++ ([[.v (.lit (.bool false))]] : Heap)) := by kernel_rfl
theorem kA2 (i : Nat) : evC E0 HH Try.f20.ntmps call0 0 A2 0 { s := lkS [(1, .loc ([q0, q1, q2, q3, q4].map .v)), (2, hpS i)], h := h } (kL [1, 2, 3]) kN = (hstore (h ++ ([[.v (.lit (.int .i64 0))]] : Heap)) h.length 0 [.v (.lit (.int .i64 0))]).bind fun h2 => some ([(1, .loc ([q0, q1, q2, q3, q4].map .v)), (2, hpS i), (3, hpS h.length)], h2) := by kernel_rfl
theorem kB (i j : Nat) : evC E0 HH Try.f20.ntmps call0 0 B 0 { s := lkS [(1, .loc ([q0, q1, q2, q3, q4].map .v)), (2, hpS i), (3, hpS j)], h := h } (kL [2, 3, 5]) kN = some ([(2, hpS i), (3, hpS j), (5, fnC h.length)], h ++ [[q0, q1, q2, q3, q4].map .v]) := by kernel_rfl
theorem kR (i j : Nat) (x : AV) : roundE E0 HH Try.f20.ntmps call0 0 (lkS [(2, hpS i), (3, hpS j)]) 6 (asg rng) (bod rng) x h =
    (hpart false 1 0 j h).bind fun v => (binAV E0 .add 3 v (.lit (.int .i64 1))).bind fun r => cond (AV.one r) ((hstore h j 0 [.v r]).bind fun h2 => (hpart false 1 0 j h2).bind fun v2 => (binAV E0 .gtr 3 v2 (.lit (.int .i64 300))).bind fun r2 => (boolOf r2).bind fun b => cond b ((hstore h2 i 0 [.v (.lit (.bool false))]).bind fun h3 => some (some .ret, h3)) (some (none, h2))) none := by kernel_rfl
theorem kF (h0 : Heap) (i j : Nat) (f : Slot) : finish E0 HH Try.f20 h0 { s := lkS [(2, hpS i), (3, hpS j), (5, f)], h := h } = (hpart false 1 0 i h).bind fun a => trunc HH h0 (.ret a) h := by kernel_rfl
theorem kC (h0 : Heap) (i j : Nat) (f : Slot) : evC E0 HH Try.f20.ntmps call0 0 rest 0 { s := lkS [(2, hpS i), (3, hpS j), (5, f)], h := h } (fun e st' => match e with | .exit _ => none | _ => finish E0 HH Try.f20 h0 st') (fun _ _ => none) =
    (hstore h i 0 [.v (.lit (.bool true))]).bind fun h2 => (hpart false 1 0 i h2).bind fun a => trunc HH h0 (.ret a) h2 := by kernel_rfl
end
abbrev bC (b : Bool) : List Cell := [.v (.lit (.bool b))]
abbrev nC (n : Int) : List Cell := [.v (.lit (.int .i64 n))]
theorem round (h : Heap) (z : List (List Cell)) (x : AV) (n : Nat) (hn : n ≤ 300) : roundE E0 HH Try.f20.ntmps call0 0 (lkS [(2, hpS h.length), (3, hpS (h.length + 1))]) 6 (asg rng) (bod rng) x (h ++ (bC false :: nC n :: z)) =
    some (bif decide (n + 1 > 300) then (some .ret, h ++ (bC false :: nC ((n + 1 : Nat) : Int) :: z)) else (none, h ++ (bC false :: nC ((n + 1 : Nat) : Int) :: z))) := by
  have e0 : hpart false 1 0 1 (bC false :: nC n :: z) = some (.lit (.int .i64 (n : Int))) := rfl
  have e1 : hstore (bC false :: nC n :: z) 1 0 [.v (.lit (.int .i64 ((n + 1 : Nat) : Int)))] = some (bC false :: nC ((n + 1 : Nat) : Int) :: z) := rfl
  have e2 : hpart false 1 0 1 (bC false :: nC ((n + 1 : Nat) : Int) :: z) = some (.lit (.int .i64 ((n + 1 : Nat) : Int))) := rfl
  have e3 : hstore (bC false :: nC ((n + 1 : Nat) : Int) :: z) 0 0 [.v (.lit (.bool false))] = some (bC false :: nC ((n + 1 : Nat) : Int) :: z) := rfl
  rw [kR, hpart_app, e0, bind_some', bin_int, addI, bind_some', incI (by omega), show AV.one (.lit (.int .i64 ((n + 1 : Nat) : Int))) = true from rfl, condT, hstore_app, e1, Option.map_some, bind_some', hpart_app, e2, bind_some', bin_int, gtrI, bind_some', boolB, bind_some']
  by_cases h3 : n + 1 > 300
  · rw [decide_eq_true (by omega : (((n + 1 : Nat) : Int) > 300)), condT, hstore_app0, e3, Option.map_some, bind_some', decide_eq_true h3, cond_true]
  · rw [decide_eq_false (by omega : ¬ (((n + 1 : Nat) : Int) > 300)), condF, decide_eq_false h3, cond_false]
theorem fold (h : Heap) (z : List (List Cell)) : ∀ (l : List AV) (n : Nat), n ≤ 300 → ∃ n' : Int, foldR (roundE E0 HH Try.f20.ntmps call0 0 (lkS [(2, hpS h.length), (3, hpS (h.length + 1))]) 6 (asg rng) (bod rng)) l (h ++ (bC false :: nC n :: z)) =
    some (bif decide (n + l.length > 300) then (some .ret, h ++ (bC false :: nC n' :: z)) else (none, h ++ (bC false :: nC n' :: z)))
  | [], n, hn => ⟨n, by rw [List.length_nil, decide_eq_false (by omega : ¬ (n + 0 > 300))]; rfl⟩
  | x :: l, n, hn => by
    rw [foldR, round h z x n hn, Option.bind_some]
    by_cases h3 : n + 1 > 300
    · exact ⟨((n + 1 : Nat) : Int), by rw [decide_eq_true h3, decide_eq_true (by rw [List.length_cons]; omega : n + (x :: l).length > 300)]; rfl⟩
    · obtain ⟨n', e⟩ := fold h z l (n + 1) (by omega)
      refine ⟨n', ?_⟩
      rw [decide_eq_false h3]
      refine Eq.trans e ?_
      rw [List.length_cons, show n + 1 + l.length = n + (l.length + 1) from by omega]
theorem ends (t : Ty) (ok : t.small = true) (h : Heap) : Ends Try.prog 20 [.agg t.cells] h (.ret (.lit (.bool (!decide (t.pre.length > 300))))) h := by
  have h1 := kA (.lit (.int .i64 t.k)) (.lit (.int .i64 t.n)) (.lit (.string t.name)) (.sl 1 (t.labels.map strC)) (.sl 5 (t.args.map Ty.cells)) h
  have h2 := kA2 (.lit (.int .i64 t.k)) (.lit (.int .i64 t.n)) (.lit (.string t.name)) (.sl 1 (t.labels.map strC)) (.sl 5 (t.args.map Ty.cells)) (h ++ ([[.v (.lit (.bool false))]] : Heap)) h.length
  rw [hstore_app0, show hstore ([[.v (.lit (.int .i64 0))]] : Heap) 0 0 [.v (.lit (.int .i64 0))] = some [[.v (.lit (.int .i64 0))]] from rfl, Option.map_some, bind_some', show (h ++ ([[.v (.lit (.bool false))]] : Heap)).length = h.length + 1 by simp] at h2
  have e5 : (h ++ ([[.v (.lit (.bool false))]] : Heap)) ++ [[.v (.lit (.int .i64 0))]] = h ++ (bC false :: nC ((0 : Nat) : Int) :: []) := by simp
  rw [e5] at h2
  have h3 := kB (.lit (.int .i64 t.k)) (.lit (.int .i64 t.n)) (.lit (.string t.name)) (.sl 1 (t.labels.map strC)) (.sl 5 (t.args.map Ty.cells)) (h ++ (bC false :: nC ((0 : Nat) : Int) :: [])) h.length (h.length + 1)
  rw [← Ty.cells_eq] at h1 h2 h3
  have e6 : h ++ (bC false :: nC ((0 : Nat) : Int) :: []) ++ [t.cells.map .v] = h ++ (bC false :: nC ((0 : Nat) : Int) :: [t.cells.map .v]) := by simp
  rw [e6] at h3
  obtain ⟨n', hf⟩ := fold h [t.cells.map .v] (t.pre.map fun x => .agg x.cells) 0 (by omega)
  rw [List.length_map, Nat.zero_add] at hf
  refine range_fn2 (E := E0) (call := call0) okE0 call0_ok (fn := Try.f20) Try.func20 (by kernel_rfl) (by rfl : Try.f20.body = some (.seq A (.seq A2 (.seq (.seq B (.block 0 (.rangeFunc (.tmp 5) #[6] (asg rng) (bod rng)))) rest)))) (H := HH) (n := 0) (Nat.le_of_ble_eq_true rfl) [1, 2] h1 [1, 2, 3] h2 [2, 3, 5] h3 (L := [(2, hpS h.length), (3, hpS (h.length + 1))]) rfl (by decide) (by rfl) (fun i => ?_) rfl
    (W34.iter_ok (tr t ok) ?_) hf ?_
  · rcases i with _ | _ | _ | _ | i <;> first | exact .inr rfl | exact .inl rfl
  · rw [List.getElem?_append_right (by simp)]
    simp only [List.length_append, List.length_cons, List.length_nil, Nat.add_sub_cancel_left]
    show some ((t.cells.map Cell.v).map Cell.get) = _
    rw [List.map_map, show Cell.get ∘ Cell.v = id from rfl, List.map_id]
  · cases decide (t.pre.length > 300) with
    | true =>
      refine (kF _ h h.length (h.length + 1) _).trans ?_
      rw [hpart_app0, show hpart false 1 0 0 (bC false :: nC n' :: [t.cells.map .v]) = some (.lit (.bool false)) from rfl, bind_some', trunc_app (H := HH) rfl (show Out.lt _ (.ret (.lit _)) from AV.lt.lit _)]
      rfl
    | false =>
      refine (kC _ h h.length (h.length + 1) _).trans ?_
      rw [hstore_app0, show hstore (bC false :: nC n' :: [t.cells.map .v]) 0 0 [.v (.lit (.bool true))] = some (bC true :: nC n' :: [t.cells.map .v]) from rfl, Option.map_some, bind_some', hpart_app0, show hpart false 1 0 0 (bC true :: nC n' :: [t.cells.map .v]) = some (.lit (.bool true)) from rfl, bind_some', trunc_app (H := HH) rfl (show Out.lt _ (.ret (.lit _)) from AV.lt.lit _)]
      rfl
end F
end H34
def p20 : (Nat → List AV → Heap → R) → List AV → Heap → R := fun _ args h => match args with
  | [.agg cs] => (decC cs).bind fun t => bif t.small then some (.ret (.lit (.bool (!decide (t.pre.length > 300)))), h) else none
  | _ => none
theorem p20_ok (call : Nat → List AV → Heap → R) (args : List AV) (h : Heap) (out : Out) (h' : Heap) (e : p20 call args h = some (out, h')) : Ends Try.prog 20 args h out h' := by
  unfold p20 at e
  split at e
  · rw [Option.bind_eq_some_iff] at e; obtain ⟨t, ht, e⟩ := e
    obtain ⟨hs, e⟩ := condE e
    have e := Option.some.inj e; cases e
    rw [decC_ok ht]
    exact H34.F.ends t hs _
  · cases e
end Go.Sh.T

/- ty.Rec: not yet told of (to be: its run at awake's input). -/
namespace Go.Sh.T
open Go Go.Sh Go.Proofs
def p25 : (Nat → List AV → Heap → R) → List AV → Heap → R := fun _ _ _ => none
theorem p25_ok (call : Nat → List AV → Heap → R) (args : List AV) (h : Heap) (out : Out) (h' : Heap) (e : p25 call args h = some (out, h')) : Ends Try.prog 25 args h out h' := by cases e
end Go.Sh.T
