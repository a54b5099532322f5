/- NgA: part of the proof: a shadow of the machine that is proved sound, and what the functions of this seat compute. Conditions: none. -/
import Derived.Sort.LotA
import Derived.Sort.LotD2
import Derived.Lib.Bytealg
import Derived.Test.YtbmgmgeliokalaaProg
import Derived.Shelf.SlSortCmp.KitK
import Derived.Sort.WalkB2
import Derived.Sort.WalkB12
import Derived.Deep.LoopGhost
set_option linter.unusedSimpArgs false
/- Rotations and merges of rows, in plain Lean: what slices' stable sort makes of a row. -/
namespace Go.Sh.Sym
open Go Go.Sort
set_option linter.unusedVariables false
variable {α : Type} [Inhabited α] {lt : α → α → Bool}

/-- n places from a on exchanged with those from b on. -/
def SwpR (a b n : Nat) (d d' : Array α) : Prop := d'.size = d.size ∧ ∀ i, d'[i]! = if a ≤ i ∧ i < a + n then d[i + (b - a)]! else if b ≤ i ∧ i < b + n then d[i - (b - a)]! else d[i]!
theorem SwpR.zero (a b : Nat) (d : Array α) : SwpR a b 0 d d := ⟨rfl, fun i => by rw [if_neg (by omega), if_neg (by omega)]⟩
theorem SwpR.step {a b n : Nat} {d d' : Array α} (h : SwpR a b n d d') (h1 : a + n < b) (h2 : b + n < d.size) : SwpR a b (n + 1) d (swp d' (a + n) (b + n)) := by
  obtain ⟨hs, hg⟩ := h
  refine ⟨by rw [swp_size, hs], fun i => ?_⟩
  rw [swp_get d' (by omega) (by omega) i, hg, hg, hg]
  (repeat' split) <;> first | omega | rfl | (congr 1; omega)

/-- The part behind m laid ahead of the part ahead of it. -/
def Rot (a m b : Nat) (d d' : Array α) : Prop := d'.size = d.size ∧ ∀ i, d'[i]! = if a ≤ i ∧ i < a + (b - m) then d[i + (m - a)]! else if a + (b - m) ≤ i ∧ i < b then d[i - (b - m)]! else d[i]!
theorem Rot.left {m b : Nat} (d : Array α) (h : m ≤ b) : Rot m m b d d := ⟨rfl, fun i => by
  by_cases c : m ≤ i ∧ i < m + (b - m)
  · rw [if_pos c]; congr 1
    omega
  · rw [if_neg c, if_neg (by omega)]⟩
theorem Rot.right {a m : Nat} (d : Array α) (h : a ≤ m) : Rot a m m d d := ⟨rfl, fun i => by
  rw [if_neg (by omega)]
  by_cases c : a + (m - m) ≤ i ∧ i < m
  · rw [if_pos c]; congr 1; omega
  · rw [if_neg c]⟩
theorem Rot.of_swp {a m n : Nat} {d d' : Array α} (h : SwpR a m n d d') (h1 : a + n = m) : Rot a m (m + n) d d' := by
  refine ⟨h.1, fun i => ?_⟩
  rw [h.2]
  (repeat' split) <;> first | omega | rfl | (congr 1; omega)
/-- More ahead than behind: what is behind is exchanged with the first of what is ahead. -/
theorem Rot.step1 {m i j : Nat} {d d1 d' : Array α} (h : SwpR (m - i) m j d d1) (hij : j < i) (him : i ≤ m) (r : Rot (m - i + j) m (m + j) d1 d') : Rot (m - i) m (m + j) d d' := by
  refine ⟨by rw [r.1, h.1], fun k => ?_⟩
  rw [r.2, h.2, h.2, h.2]
  (repeat' split) <;> first | omega | rfl | (congr 1; omega)
/-- More behind than ahead: what is ahead is exchanged with the last of what is behind. -/
theorem Rot.step2 {m i j : Nat} {d d1 d' : Array α} (h : SwpR (m - i) (m + j - i) i d d1) (hij : i < j) (him : i ≤ m) (r : Rot (m - i) m (m + (j - i)) d1 d') : Rot (m - i) m (m + j) d d' := by
  refine ⟨by rw [r.1, h.1], fun k => ?_⟩
  rw [r.2, h.2, h.2, h.2]
  (repeat' split) <;> first | omega | rfl | (congr 1; omega)

/-- One place exchanged with the next, again and again: it comes to stand behind all. -/
theorem Rot.up {a k : Nat} {d d' : Array α} (h : Rot a (a + 1) (k + 1) d d') (h0 : a ≤ k) (h1 : k + 1 < d.size) : Rot a (a + 1) (k + 2) d (swp d' k (k + 1)) := by
  refine ⟨by rw [swp_size, h.1], fun i => ?_⟩
  have hs := h.1
  rw [swp_get d' (by omega) (by omega) i, h.2, h.2, h.2]
  (repeat' split) <;> first | omega | rfl | (congr 1; omega)
/-- .. with the one ahead, again and again: it comes to stand ahead of all. -/
theorem Rot.down {m k : Nat} {d d' : Array α} (h : Rot (k + 1) m (m + 1) d d') (h0 : k + 1 ≤ m) (h1 : m < d.size) : Rot k m (m + 1) d (swp d' (k + 1) k) := by
  refine ⟨by rw [swp_size, h.1], fun i => ?_⟩
  have hs := h.1
  rw [swp_get d' (by omega) (by omega) i, h.2, h.2, h.2]
  (repeat' split) <;> first | omega | rfl | (congr 1; omega)

theorem permIn_le (d d' : Array α) {a b a' b' : Nat} (h : PermIn a b d d') (h1 : a' ≤ a) (h2 : b ≤ b') (h3 : b' ≤ d.size) : PermIn a' b' d d' := permIn_mono d d' a b a' b' h1 h2 h3 h
theorem permIn_swp {d d' : Array α} {a b i j : Nat} (h : PermIn a b d d') (h1 : a ≤ i) (h2 : i < b) (h3 : a ≤ j) (h4 : j < b) (h5 : b ≤ d.size) : PermIn a b d (swp d' i j) :=
  permIn_trans d d' _ a b h (swp_permIn d' a b i j h1 h2 h3 h4 (by rw [h.1]; exact h5))

/-- One element ahead of a row in order, laid into its place. -/
theorem ins_first (hS : SWO lt) {a i b : Nat} {d d' : Array α} (hs : SortedIn lt (a + 1) b d) (hi : a + 1 ≤ i) (hib : i ≤ b) (h1 : i = a + 1 ∨ lt d[i - 1]! d[a]! = true) (h2 : i = b ∨ lt d[i]! d[a]! = false) (r : Rot a (a + 1) i d d') : SortedIn lt a b d' := by
  have L1 : ∀ k, a + 1 ≤ k → k < i → lt d[a]! d[k]! = false := fun k hk1 hk2 => by
    rcases h1 with h1 | h1
    · omega
    · have h1' := hS.asymm h1
      by_cases hk : k = i - 1
      · rw [hk]; exact h1'
      · exact hS.ntrans _ _ _ h1' (hs k (i - 1) hk1 (by omega) (by omega))
  have L2 : ∀ k, i ≤ k → k < b → lt d[k]! d[a]! = false := fun k hk1 hk2 => by
    rcases h2 with h2 | h2
    · omega
    · by_cases hk : k = i
      · rw [hk]; exact h2
      · exact hS.ntrans _ _ _ (hs i k (by omega) (by omega) hk2) h2
  have G1 : ∀ k, a ≤ k → k < i - 1 → d'[k]! = d[k + 1]! := fun k h1 h2 => by rw [r.2, if_pos (by omega)]; congr 1; omega
  have G2 : d'[i - 1]! = d[a]! := by rw [r.2, if_neg (by omega), if_pos (by omega)]; congr 1; omega
  have G3 : ∀ k, i ≤ k → d'[k]! = d[k]! := fun k h1 => by rw [r.2, if_neg (by omega), if_neg (by omega)]
  intro p q hp hpq hq
  by_cases c1 : q < i - 1
  · rw [G1 p hp (by omega), G1 q (by omega) c1]; exact hs _ _ (by omega) (by omega) (by omega)
  · by_cases c2 : q = i - 1
    · rw [c2, G2, G1 p hp (by omega)]; exact L1 _ (by omega) (by omega)
    · rw [G3 q (by omega)]
      by_cases c3 : p < i - 1
      · rw [G1 p hp c3]; exact hs _ _ (by omega) (by omega) hq
      · by_cases c4 : p = i - 1
        · rw [c4, G2]; exact L2 _ (by omega) hq
        · rw [G3 p (by omega)]; exact hs _ _ (by omega) hpq hq
/-- One element behind a row in order, laid into its place. -/
theorem ins_last (hS : SWO lt) {a i m : Nat} {d d' : Array α} (hs : SortedIn lt a m d) (hi : a ≤ i) (him : i ≤ m) (h1 : i = a ∨ lt d[m]! d[i - 1]! = false) (h2 : i = m ∨ lt d[m]! d[i]! = true) (r : Rot i m (m + 1) d d') : SortedIn lt a (m + 1) d' := by
  have L1 : ∀ k, a ≤ k → k < i → lt d[m]! d[k]! = false := fun k hk1 hk2 => by
    rcases h1 with h1 | h1
    · omega
    · by_cases hk : k = i - 1
      · rw [hk]; exact h1
      · exact hS.ntrans _ _ _ h1 (hs k (i - 1) hk1 (by omega) (by omega))
  have L2 : ∀ k, i ≤ k → k < m → lt d[k]! d[m]! = false := fun k hk1 hk2 => by
    rcases h2 with h2 | h2
    · omega
    · have h2' := hS.asymm h2
      by_cases hk : k = i
      · rw [hk]; exact h2'
      · exact hS.ntrans _ _ _ (hs i k (by omega) (by omega) hk2) h2'
  have G1 : ∀ k, k < i → d'[k]! = d[k]! := fun k h1 => by rw [r.2, if_neg (by omega), if_neg (by omega)]
  have G2 : d'[i]! = d[m]! := by rw [r.2, if_pos (by omega)]; congr 1; omega
  have G3 : ∀ k, i < k → k ≤ m → d'[k]! = d[k - 1]! := fun k h1 h2 => by rw [r.2, if_neg (by omega), if_pos (by omega)]; congr 1; omega
  intro p q hp hpq hq
  by_cases c1 : q < i
  · rw [G1 p (by omega), G1 q c1]; exact hs _ _ hp hpq (by omega)
  · by_cases c2 : q = i
    · rw [c2, G2, G1 p (by omega)]; exact L1 _ hp (by omega)
    · rw [G3 q (by omega) (by omega)]
      by_cases c3 : p < i
      · rw [G1 p c3]
        by_cases c5 : p < q - 1
        · exact hs _ _ hp c5 (by omega)
        · omega
      · by_cases c4 : p = i
        · rw [c4, G2]; exact L2 _ (by omega) (by omega)
        · rw [G3 p (by omega) (by omega)]; exact hs _ _ (by omega) (by omega) (by omega)

/-- Two rows in order, parted at 's' and 'e', the middle parts turned: all of the left half is at most all of the right half. -/
structure Half (lt : α → α → Bool) (a mid b : Nat) (d : Array α) : Prop where
  cross : ∀ p q, a ≤ p → p < mid → mid ≤ q → q < b → lt d[q]! d[p]! = false

theorem rot_half (hS : SWO lt) {a s m e b mid : Nat} {d d' : Array α} (hl : SortedIn lt a m d) (hr : SortedIn lt m b d) (h1 : a ≤ s) (h2 : s ≤ m) (h3 : m ≤ e) (h4 : e ≤ b) (hmid : mid = s + (e - m))
    (b1 : s = a ∨ e = b ∨ lt d[e]! d[s - 1]! = false) (b2 : e = m ∨ s = m ∨ lt d[e - 1]! d[s]! = true) (r : Rot s m e d d') : SortedIn lt a s d' ∧ SortedIn lt s mid d' ∧ SortedIn lt mid e d' ∧ SortedIn lt e b d' ∧ Half lt a mid b d' := by
  have G0 : ∀ k, k < s → d'[k]! = d[k]! := fun k h => by rw [r.2, if_neg (by omega), if_neg (by omega)]
  have G1 : ∀ k, s ≤ k → k < mid → d'[k]! = d[k + (m - s)]! := fun k h h' => by rw [r.2, if_pos (by omega)]
  have G2 : ∀ k, mid ≤ k → k < e → d'[k]! = d[k - (e - m)]! := fun k h h' => by rw [r.2, if_neg (by omega), if_pos (by omega)]
  have G3 : ∀ k, e ≤ k → d'[k]! = d[k]! := fun k h => by rw [r.2, if_neg (by omega), if_neg (by omega)]
  have X1 : ∀ p q, a ≤ p → p < s → e ≤ q → q < b → lt d[q]! d[p]! = false := fun p q hp hp' hq hq' => by
    rcases b1 with h | h | h
    · omega
    · omega
    · have k1 : lt d[q]! d[s - 1]! = false := by
        by_cases c : q = e
        · rw [c]; exact h
        · exact hS.ntrans _ _ _ (hr e q (by omega) (by omega) hq') h
      by_cases c : p = s - 1
      · rw [c]; exact k1
      · exact hS.ntrans _ _ _ k1 (hl p (s - 1) hp (by omega) (by omega))
  have X2 : ∀ p q, m ≤ p → p < e → s ≤ q → q < m → lt d[q]! d[p]! = false := fun p q hp hp' hq hq' => by
    rcases b2 with h | h | h
    · omega
    · omega
    · have h' := hS.asymm h
      have k1 : lt d[q]! d[e - 1]! = false := by
        by_cases c : q = s
        · rw [c]; exact h'
        · exact hS.ntrans _ _ _ (hl s q (by omega) (by omega) hq') h'
      by_cases c : p = e - 1
      · rw [c]; exact k1
      · exact hS.ntrans _ _ _ k1 (hr p (e - 1) hp (by omega) (by omega))
  refine ⟨fun p q hp hpq hq => ?_, fun p q hp hpq hq => ?_, fun p q hp hpq hq => ?_, fun p q hp hpq hq => ?_, ⟨fun p q hp hp' hq hq' => ?_⟩⟩
  · rw [G0 p (by omega), G0 q hq]; exact hl _ _ hp hpq (by omega)
  · rw [G1 p hp (by omega), G1 q (by omega) hq]; exact hr _ _ (by omega) (by omega) (by omega)
  · rw [G2 p hp (by omega), G2 q (by omega) hq]; exact hl _ _ (by omega) (by omega) (by omega)
  · rw [G3 p hp, G3 q (by omega)]; exact hr _ _ (by omega) hpq hq
  · by_cases c1 : p < s
    · rw [G0 p c1]
      by_cases c2 : q < e
      · rw [G2 q hq c2]; exact hl _ _ hp (by omega) (by omega)
      · rw [G3 q (by omega)]; exact X1 _ _ hp c1 (by omega) hq'
    · rw [G1 p (by omega) hp']
      by_cases c2 : q < e
      · rw [G2 q hq c2]; exact X2 _ _ (by omega) (by omega) (by omega) (by omega)
      · rw [G3 q (by omega)]; exact hr _ _ (by omega) (by omega) hq'

theorem Half.perm {a mid b : Nat} {d d' : Array α} (h : Half lt a mid b d) (hm : a ≤ mid) (hb : b ≤ d.size) (hmb : mid ≤ b) (h1 : PermIn a mid d d' ∨ PermIn mid b d d') : Half lt a mid b d' := by
  refine ⟨fun p q hp hp' hq hq' => ?_⟩
  rcases h1 with h1 | h1
  · rw [h1.2.1 q (.inr hq)]
    exact permIn_all d d' a mid (fun x => lt d[q]! x = false) (by omega) h1 (fun i h1 h2 => h.cross i q h1 h2 hq hq') p hp hp'
  · rw [h1.2.1 p (.inl hp')]
    exact permIn_all d d' mid b (fun x => lt x d[p]! = false) (by omega) h1 (fun i h1 h2 => h.cross p i hp hp' h1 h2) q hq hq'
theorem Half.sorted {a mid b : Nat} {d : Array α} (h : Half lt a mid b d) (h1 : SortedIn lt a mid d) (h2 : SortedIn lt mid b d) : SortedIn lt a b d := fun p q hp hpq hq => by
  by_cases c1 : q < mid
  · exact h1 p q hp hpq c1
  · by_cases c2 : p < mid
    · exact h.cross p q hp c2 (by omega) hq
    · exact h2 p q (by omega) hpq hq
theorem sorted_keep {a b x y : Nat} {d d' : Array α} (h : SortedIn lt a b d) (p : PermIn x y d d') (hd : b ≤ x ∨ y ≤ a) : SortedIn lt a b d' := h.congr fun i h1 h2 => p.2.1 i (by omega)

/-- Each block of so many places is in order. -/
def Blk (lt : α → α → Bool) (bs n : Nat) (d : Array α) : Prop := ∀ s, bs ∣ s → SortedIn lt s (min (s + bs) n) d
/-- Two multiples. -/
theorem mult_le {k s a : Nat} (h1 : k ∣ s) (h2 : k ∣ a) (h : s < a + k) : s ≤ a := by
  obtain ⟨p, rfl⟩ := h1
  obtain ⟨q, rfl⟩ := h2
  have : p < q + 1 := by
    refine Nat.lt_of_not_le fun hc => ?_
    have := Nat.mul_le_mul_left k hc
    rw [Nat.mul_add, Nat.mul_one] at this; omega
  exact Nat.mul_le_mul_left k (by omega)
end Go.Sh.Sym

/- slices.swapRangeCmpFunc, rotateCmpFunc at fields. -/
namespace Go.Sh.Sym
open Go Go.Proofs Go.Shelf Go.RowKit Go.Lib Go.Sort
set_option linter.unusedVariables false
set_option linter.unusedSimpArgs false

/-- A field: its label, and the five cells of its type. -/
structure Fld where
  s : ByteArray
  x1 : Value
  x2 : Value
  x3 : Value
  x4 : Value
  x5 : Value
  o1 : x1.oneCell' = true
  o2 : x2.oneCell' = true
  o3 : x3.oneCell' = true
  o4 : x4.oneCell' = true
  o5 : x5.oneCell' = true
instance : Inhabited Fld := ⟨⟨ByteArray.empty, .bool true, .bool true, .bool true, .bool true, .bool true, rfl, rfl, rfl, rfl, rfl⟩⟩
noncomputable def enc (x : Fld) : List Value := [.string x.s, x.x1, x.x2, x.x3, x.x4, x.x5]
theorem enc_len (x : Fld) : (enc x).length = 6 := rfl
theorem enc_one (x : Fld) : ∀ v ∈ enc x, v.oneCell' = true := by
  intro v hv
  simp only [enc, List.mem_cons, List.not_mem_nil, or_false] at hv
  rcases hv with rfl | rfl | rfl | rfl | rfl | rfl
  · rfl
  · exact x.o1
  · exact x.o2
  · exact x.o3
  · exact x.o4
  · exact x.o5
noncomputable def cf (x y : Fld) : Int := compareBytes x.s.data.toList y.s.data.toList

abbrev Rw (k : Nat) (w0 : World) (blk off : Nat) (d0 : Array Fld) : Prop := RowK enc k w0 blk off d0
abbrev SW (k : Nat) (w0 : World) (blk off : Nat) (d : Array Fld) (W : World) : Prop := SWK enc k w0 blk off d W


theorem hid {p : Prop} (h : p) : Hid p := h
/-- What is asked of the program: the bodies, and their types. -/
structure Lay (P : Program) (k : Nat) : Prop where
  mixed : P.follows .mixedOrders = true
  f44 : P.funcs[44]? = some Try.f44
  f57 : P.funcs[57]? = some Try.f57
  f75 : P.funcs[75]? = some Try.f75
  f76 : P.funcs[76]? = some Try.f76
  f87 : P.funcs[87]? = some Try.f87
  f90 : P.funcs[90]? = some Try.f90
  t0 : P.underlying 0 = some (TypeDesc.tuple #[])
  a0 : ∀ w, (isAgg 0).run P w = .ok false w
  z0 : ∀ w, (Go.sizeOf 0).run P w = .ok 1 w
  v0 : ∀ w, (zeroValue 0).run P w = .ok (Value.tuple #[]) w
  t3 : P.underlying 3 = some (TypeDesc.int IntKind.i64)
  a3 : ∀ w, (isAgg 3).run P w = .ok false w
  z3 : ∀ w, (Go.sizeOf 3).run P w = .ok 1 w
  v3 : ∀ w, (zeroValue 3).run P w = .ok (Value.int IntKind.i64 0) w
  t4 : P.underlying 4 = some (TypeDesc.bool)
  a4 : ∀ w, (isAgg 4).run P w = .ok false w
  z4 : ∀ w, (Go.sizeOf 4).run P w = .ok 1 w
  v4 : ∀ w, (zeroValue 4).run P w = .ok (Value.bool false) w
  t50 : P.underlying 50 = some (TypeDesc.slice 52)
  a50 : ∀ w, (isAgg 50).run P w = .ok false w
  z50 : ∀ w, (Go.sizeOf 50).run P w = .ok 1 w
  v50 : ∀ w, (zeroValue 50).run P w = .ok (Value.slice none 0 0) w
  t54 : P.underlying 54 = some (TypeDesc.func #[52, 52] #[3] false)
  a54 : ∀ w, (isAgg 54).run P w = .ok false w
  z54 : ∀ w, (Go.sizeOf 54).run P w = .ok 1 w
  v54 : ∀ w, (zeroValue 54).run P w = .ok (Value.nilFunc) w
  t62 : P.underlying 62 = some (TypeDesc.int IntKind.u64)
  a62 : ∀ w, (isAgg 62).run P w = .ok false w
  z62 : ∀ w, (Go.sizeOf 62).run P w = .ok 1 w
  v62 : ∀ w, (zeroValue 62).run P w = .ok (Value.int IntKind.u64 0) w
  aE : ∀ w, (isAgg 52).run P w = .ok true w
  zE : ∀ w, (Go.sizeOf 52).run P w = .ok k w
theorem lay : Lay Try.prog 6 := {
  mixed := by kernel_rfl
  f44 := Try.func44
  f57 := Try.func57
  f75 := Try.func75
  f76 := Try.func76
  f87 := Try.func87
  f90 := Try.func90
  t0 := Try.underlying0
  a0 := Try.isAgg0
  z0 := Try.sizeOf0
  v0 := Try.zeroValue0
  t3 := Try.underlying3
  a3 := Try.isAgg3
  z3 := Try.sizeOf3
  v3 := Try.zeroValue3
  t4 := Try.underlying4
  a4 := Try.isAgg4
  z4 := Try.sizeOf4
  v4 := Try.zeroValue4
  t50 := Try.underlying50
  a50 := Try.isAgg50
  z50 := Try.sizeOf50
  v50 := Try.zeroValue50
  t54 := Try.underlying54
  a54 := Try.isAgg54
  z54 := Try.sizeOf54
  v54 := Try.zeroValue54
  t62 := Try.underlying62
  a62 := Try.isAgg62
  z62 := Try.sizeOf62
  v62 := Try.zeroValue62
  aE := Try.isAgg52
  zE := Try.sizeOf52 }
variable {P : Program} {k g : Nat} {cb : Array Value} {w0 W : World} {blk off cap : Nat} {d0 d : Array Fld}

set_option maxHeartbeats 4000000 in
set_option maxRecDepth 1000000 in
theorem swapRange (L : Lay P k) (R : Rw k w0 blk off d0) (hs : d0.size = d.size) (S : SW k w0 blk off d W) (a b n : Nat) (hab : a + n ≤ b) (hbn : b + n ≤ d.size) (hsz : d.size < 1152921504606846976) :
    Calls P 90 #[.slice (some ⟨blk, off, none⟩) d.size cap, .int .i64 a, .int .i64 b, .int .i64 n, .func (.func g) #[] cb] W fun e w' => e = .returned (.tuple #[]) ∧ ∃ d', SW k w0 blk off d' w' ∧ SwpR a b n d d' ∧ PermIn a (b + n) d d' := by
  have mixed := L.mixed; have t0 := L.t0; have a0 := L.a0; have z0 := L.z0; have v0 := L.v0; have t3 := L.t3; have a3 := L.a3; have z3 := L.z3; have v3 := L.v3; have t4 := L.t4; have a4 := L.a4; have z4 := L.z4; have v4 := L.v4; have t50 := L.t50; have a50 := L.a50; have z50 := L.z50; have v50 := L.v50; have t54 := L.t54; have a54 := L.a54; have z54 := L.z54; have v54 := L.v54; have t62 := L.t62; have a62 := L.a62; have z62 := L.z62; have v62 := L.v62; have aE := L.aE; have zE := L.zE
  have S0 : Aside (SW k w0 blk off d W) := S
  clear S
  go_enter L.f90, Try.ntmps90
  go_wp2
  go_loopg [10] n (fun kx s10 wr => ∃ (i : Nat) (dk : Array Fld), s10 = .int .i64 i ∧ i ≤ n ∧ n - i ≤ kx ∧ dk.size = d.size ∧ Aside (SW k w0 blk off dk wr) ∧ Hid (SwpR a b i d dk ∧ PermIn a (b + n) d dk))
  case atStart => exact ⟨0, d, rfl, Nat.zero_le _, Nat.le_refl _, rfl, S0, SwpR.zero _ _ _, permIn_refl _ _ _⟩
  case round =>
    clear S0
    obtain ⟨i, dk, rfl, hi, hkx, hds, S1, HE⟩ := hrel
    by_cases hlt : i < n
    · have hltz : (i : Int) < (n : Int) := by omega
      have ea44 : ((a : Int) + (i : Int)).toNat = a + i := by omega
      have pa44 : (0 : Int) ≤ (a : Int) + (i : Int) := by omega
      have ba44 : (a : Int) + (i : Int) < (d.size : Int) := by omega
      have ra44 : IntKind.i64.wrap ((a : Int) + (i : Int)) = (a : Int) + (i : Int) := by rw [IntKind.wrap_i64]; omega
      have ec44 : ((b : Int) + (i : Int)).toNat = b + i := by omega
      have pc44 : (0 : Int) ≤ (b : Int) + (i : Int) := by omega
      have bc44 : (b : Int) + (i : Int) < (d.size : Int) := by omega
      have rc44 : IntKind.i64.wrap ((b : Int) + (i : Int)) = (b : Int) + (i : Int) := by rw [IntKind.wrap_i64]; omega
      have S2 : Aside (SW k w0 blk off (swp dk (a + i) (b + i)) ((wr.drew.setCells blk (off + (a + i) * k) (enc dk[b + i]!)).setCells blk (off + (b + i) * k) (enc dk[a + i]!))) := S1.out.swapped R (a + i) (b + i) (by omega) (by omega)
      have l44a := S1.out.ld1 R (by omega) P (a + i) (by omega)
      have l44b := S1.out.ld1 R (by omega) P (b + i) (by omega)
      have s44a := S1.out.st1 R (by omega) P (a + i) (by omega) dk[b + i]!
      have s44b := S1.out.st2 R (by omega) P (a + i) (b + i) (by omega) (by omega) dk[b + i]! dk[a + i]!
      have n44a : (enc dk[a + i]!).length = k := R.hk _
      have n44b : (enc dk[b + i]!).length = k := R.hk _
      generalize enc dk[a + i]! = cI44 at S2 l44a s44b n44a
      generalize enc dk[b + i]! = cJ44 at S2 l44b s44a s44b n44b
      clear S1
      go_wp2_with fail
      go_big_region_o
      clear l44a l44b s44a s44b
      generalize (wr.drew.setCells blk (off + (a + i) * k) cJ44).setCells blk (off + (b + i) * k) cI44 = w2 at S2 ⊢
      go_wp2
      go_roundg (n - (i + 1))
      case measure => omega
      case rel =>
        have h1 := HE.out.1
        exact ⟨i + 1, swp dk (a + i) (b + i), by go_num, by omega, Nat.le_refl _, by rw [swp_size]; exact hds, S2, h1.step (by omega) (by omega), permIn_swp HE.out.2 (by omega) (by omega) (by omega) (by omega) (by omega)⟩
    · have hltz : ¬ (i : Int) < (n : Int) := by omega
      have hin : i = n := by omega
      go_wp2
      go_end0
      exact ⟨rfl, dk, S1.out, by rw [hin] at HE; exact HE.out.1, HE.out.2⟩
end Go.Sh.Sym

/- slices.rotateCmpFunc at fields. -/

namespace Go.Sh.Sym
open Go Go.Proofs Go.Shelf Go.RowKit Go.Lib Go.Sort
set_option linter.unusedVariables false
set_option linter.unusedSimpArgs false
variable {P : Program} {k g : Nat} {cb : Array Value} {w0 W : World} {blk off cap : Nat} {d0 d : Array Fld}

set_option maxHeartbeats 4000000 in
set_option maxRecDepth 1000000 in
theorem rotate (L : Lay P k) (R : Rw k w0 blk off d0) (hs : d0.size = d.size) (S : SW k w0 blk off d W) (a m b : Nat) (ham : a < m) (hmb : m < b) (hb : b ≤ d.size) (hsz : d.size < 1152921504606846976) :
    Calls P 87 #[.slice (some ⟨blk, off, none⟩) d.size cap, .int .i64 a, .int .i64 m, .int .i64 b, .func (.func g) #[] cb] W fun e w' => e = .returned (.tuple #[]) ∧ ∃ d', SW k w0 blk off d' w' ∧ Rot a m b d d' ∧ PermIn a b d d' := by
  have mixed := L.mixed; have t0 := L.t0; have a0 := L.a0; have z0 := L.z0; have v0 := L.v0; have t3 := L.t3; have a3 := L.a3; have z3 := L.z3; have v3 := L.v3; have t4 := L.t4; have a4 := L.a4; have z4 := L.z4; have v4 := L.v4; have t50 := L.t50; have a50 := L.a50; have z50 := L.z50; have v50 := L.v50; have t54 := L.t54; have a54 := L.a54; have z54 := L.z54; have v54 := L.v54; have t62 := L.t62; have a62 := L.a62; have z62 := L.z62; have v62 := L.v62; have aE := L.aE; have zE := L.zE
  have e90 : ∀ args w, (callFunc 90 args).run P w = .ok (.enter 90 args) w := enters_of L.f90 (by kernel_rfl) rfl
  have S0 : Aside (SW k w0 blk off d W) := S
  clear S
  go_enter L.f87, Try.ntmps87
  go_wp2
  go_loopg [10, 11] (m - a + (b - m)) (fun kx s10 s11 wr => ∃ (i j : Nat) (dk : Array Fld), s10 = .int .i64 i ∧ s11 = .int .i64 j ∧ 0 < i ∧ 0 < j ∧ a + i ≤ m ∧ m + j ≤ b ∧ i + j ≤ kx ∧ dk.size = d.size ∧ Aside (SW k w0 blk off dk wr) ∧ Hid ((∀ d', Rot (m - i) m (m + j) dk d' → Rot a m b d d') ∧ PermIn a b d dk))
  case atStart =>
    refine ⟨m - a, b - m, d, by congr 1; omega, by congr 1; omega, by omega, by omega, by omega, by omega, Nat.le_refl _, rfl, S0, fun d' h => ?_, permIn_refl _ _ _⟩
    rwa [show m - (m - a) = a by omega, show m + (b - m) = b by omega] at h
  case round =>
    clear S0
    obtain ⟨i, j, dk, rfl, rfl, hi, hj, hai, hjb, hkx, hds, S1, HE⟩ := hrel
    have r1 : IntKind.i64.wrap ((m : Int) - (i : Int)) = (m : Int) - (i : Int) := by rw [IntKind.wrap_i64]; omega
    by_cases hne : i = j
    · subst hne
      have h := fun w' (S : SW k w0 blk off dk w') => swapRange (cap := cap) (g := g) (cb := cb) L R (hs.trans hds.symm) S (m - i) m i (by omega) (by omega) (by omega)
      rw [hds, show ((m - i : Nat) : Int) = (m : Int) - (i : Int) by omega] at h
      have S2 := S1.out
      have h2 := hid (h wr S2)
      clear h S1
      go_wp2_with (go_at_fn 90; refine h2.out.mono ?_; rintro e w' ⟨rfl, d', S', k1, k2⟩)
      go_end0
      refine ⟨rfl, d', S', HE.out.1 d' (Rot.of_swp k1 (by omega)), permIn_trans _ _ _ _ _ HE.out.2 (permIn_le _ _ k2 (by omega) (by omega) (by omega))⟩
    · by_cases hgt : j < i
      · have hgz : (j : Int) < (i : Int) := by omega
        have hnz : ¬ ((i : Int) = (j : Int)) := by omega
        have h := fun w' (S : SW k w0 blk off dk w') => swapRange (cap := cap) (g := g) (cb := cb) L R (hs.trans hds.symm) S (m - i) m j (by omega) (by omega) (by omega)
        rw [hds, show ((m - i : Nat) : Int) = (m : Int) - (i : Int) by omega] at h
        have S2 := S1.out
        have h2 := hid (h wr S2)
        clear h S1
        go_wp2_with (go_at_fn 90; refine h2.out.mono ?_; rintro e w' ⟨rfl, d', S', k1, k2⟩)
        go_roundg (i - j + j)
        case measure => omega
        case rel =>
          refine ⟨i - j, j, d', by congr 1; omega, rfl, by omega, hj, by omega, hjb, by omega, by rw [k1.1]; exact hds, S', fun d'' h => HE.out.1 d'' (Rot.step1 k1 hgt (by omega) ?_), permIn_trans _ _ _ _ _ HE.out.2 (permIn_le _ _ k2 (by omega) (by omega) (by omega))⟩
          rwa [show m - (i - j) = m - i + j by omega] at h
      · have hgz : ¬ ((j : Int) < (i : Int)) := by omega
        have hnz : ¬ ((i : Int) = (j : Int)) := by omega
        have r2 : IntKind.i64.wrap ((m : Int) + (j : Int)) = (m : Int) + (j : Int) := by rw [IntKind.wrap_i64]; omega
        have r3 : IntKind.i64.wrap ((m : Int) + (j : Int) - (i : Int)) = (m : Int) + (j : Int) - (i : Int) := by rw [IntKind.wrap_i64]; omega
        have h := fun w' (S : SW k w0 blk off dk w') => swapRange (cap := cap) (g := g) (cb := cb) L R (hs.trans hds.symm) S (m - i) (m + j - i) i (by omega) (by omega) (by omega)
        rw [hds, show ((m - i : Nat) : Int) = (m : Int) - (i : Int) by omega, show ((m + j - i : Nat) : Int) = (m : Int) + (j : Int) - (i : Int) by omega] at h
        have S2 := S1.out
        have h2 := hid (h wr S2)
        clear h S1
        go_wp2_with (go_at_fn 90; refine h2.out.mono ?_; rintro e w' ⟨rfl, d', S', k1, k2⟩)
        go_roundg (i + (j - i))
        case measure => omega
        case rel =>
          exact ⟨i, j - i, d', rfl, by congr 1; omega, hi, by omega, hai, by omega, by omega, by rw [k1.1]; exact hds, S', fun d'' h => HE.out.1 d'' (Rot.step2 k1 (by omega) (by omega) h), permIn_trans _ _ _ _ _ HE.out.2 (permIn_le _ _ k2 (by omega) (by omega) (by omega))⟩
end Go.Sh.Sym

/- slices.symMergeCmpFunc at fields. -/
namespace Go.Sh.Sym
open Go Go.Proofs Go.Shelf Go.RowKit Go.Lib Go.Sort
set_option linter.unusedVariables false
set_option linter.unusedSimpArgs false
variable {P : Program} {k g : Nat} {cb : Array Value} {w0 : World} {blk off cap : Nat} {d0 : Array Fld}
theorem wrapU (x : Int) (h : 0 ≤ x) (h1 : x < 9223372036854775808) : IntKind.u64.wrap x = x := by
  simp [IntKind.wrap, IntKind.bits, IntKind.signed]; omega

set_option maxHeartbeats 8000000 in
set_option maxRecDepth 1000000 in
theorem sym1 (L : Lay P k) (hO : SWO (ltOf cf)) (hC : CmpLays P g cb enc k cf blk off d0.size w0) (eg : ∀ args w, (callFunc g args).run P w = .ok (.enter g args) w) (R : Rw k w0 blk off d0) (d : Array Fld) (W : World) (hs : d0.size = d.size) (S : SW k w0 blk off d W) (a m b : Nat) (ham1 : m ≤ a + 1) (ham2 : a + 1 ≤ m) (hmb : m < b) (hb : b ≤ d.size) (hsz : d.size < 1152921504606846976) (hsr : SortedIn (ltOf cf) m b d) :
    Calls P 76 #[.slice (some ⟨blk, off, none⟩) d.size cap, .int .i64 a, .int .i64 m, .int .i64 b, .func (.func g) #[] cb] W fun e w' => e = .returned (.tuple #[]) ∧ ∃ d', SW k w0 blk off d' w' ∧ PermIn a b d d' ∧ SortedIn (ltOf cf) a b d' := by
  have mixed := L.mixed; have t0 := L.t0; have a0 := L.a0; have z0 := L.z0; have v0 := L.v0; have t3 := L.t3; have a3 := L.a3; have z3 := L.z3; have v3 := L.v3; have t4 := L.t4; have a4 := L.a4; have z4 := L.z4; have v4 := L.v4; have t50 := L.t50; have a50 := L.a50; have z50 := L.z50; have v50 := L.v50; have t54 := L.t54; have a54 := L.a54; have z54 := L.z54; have v54 := L.v54; have t62 := L.t62; have a62 := L.a62; have z62 := L.z62; have v62 := L.v62; have aE := L.aE; have zE := L.zE
  have HC : Aside _ := hC
  have SR : Hid _ := hsr
  have OO : Hid _ := hO
  have S0 : Aside (SW k w0 blk off d W) := S
  clear S hC hsr hO
  have hma : (m : Int) - (a : Int) = 1 := by omega
  go_enter L.f76, Try.ntmps76
  go_wp2
  go_loopg [10, 11] (b - m) (fun kx s10 s11 wr => ∃ (i j : Nat), s10 = .int .i64 i ∧ s11 = .int .i64 j ∧ m ≤ i ∧ i ≤ j ∧ j ≤ b ∧ j - i ≤ kx ∧ Aside (SW k w0 blk off d wr) ∧ Hid ((i = m ∨ ltOf cf d[i - 1]! d[a]! = true) ∧ (j = b ∨ ltOf cf d[j]! d[a]! = false)))
  case atStart => exact ⟨m, b, rfl, rfl, Nat.le_refl _, by omega, Nat.le_refl _, Nat.le_refl _, S0, .inl rfl, .inl rfl⟩
  case round =>
    clear S0
    obtain ⟨i, j, rfl, rfl, hmi, hij, hjb, hkx, S1, HE⟩ := hrel
    by_cases hlt : i < j
    · have hltz : (i : Int) < (j : Int) := by omega
      obtain ⟨h, hh⟩ : ∃ h : Nat, h = (i + j) / 2 := ⟨_, rfl⟩
      have hh1 : i ≤ h := by omega
      have hh2 : h < j := by omega
      have hf : ((i : Int) + (j : Int)) / 2 = (h : Int) := by omega
      have hw1 : IntKind.u64.wrap ((i : Int) + (j : Int)) = (i : Int) + (j : Int) := wrapU _ (by omega) (by omega)
      have hw2 : IntKind.i64.wrap ((i : Int) + (j : Int)) = (i : Int) + (j : Int) := by rw [IntKind.wrap_i64]; omega
      have hw3 : IntKind.i64.wrap (h : Int) = (h : Int) := by rw [IntKind.wrap_i64]; omega
      have hw4 : IntKind.u64.wrap (h : Int) = (h : Int) := wrapU _ (by omega) (by omega)
      clear hh
      cases hlv : ltOf cf d[h]! d[a]! with
      | true =>
        have ea44 : ((h : Int)).toNat = h := by omega
        have pa44 : (0 : Int) ≤ (h : Int) := by omega
        have ba44 : (h : Int) < (d.size : Int) := by omega
        have ra44 : IntKind.i64.wrap ((h : Int)) = (h : Int) := by rw [IntKind.wrap_i64]; omega
        have ec44 : ((a : Int)).toNat = a := by omega
        have pc44 : (0 : Int) ≤ (a : Int) := by omega
        have bc44 : (a : Int) < (d.size : Int) := by omega
        have rc44 : IntKind.i64.wrap ((a : Int)) = (a : Int) := by rw [IntKind.wrap_i64]; omega
        obtain ⟨x44, hx44⟩ : ∃ x, x = d[h]! := ⟨_, rfl⟩
        obtain ⟨y44, hy44⟩ : ∃ x, x = d[a]! := ⟨_, rfl⟩
        have l44a := S1.out.ld R (by omega) P (h) (by omega)
        have l44b := S1.out.ld R (by omega) P (a) (by omega)
        rw [← hx44] at l44a
        rw [← hy44] at l44b
        have hc44 := S1.out.cmp HC.out (by omega) x44 y44
        have hv44 : cf x44 y44 < 0 := by rw [hx44, hy44]; exact of_decide_eq_true hlv
        have hd44 : decide (cf x44 y44 < 0) = true := decide_eq_true hv44
        clear hx44 hy44
        go_wp2_with fail
        go_quiet_grown (first | (go_at_fn g; refine Calls.grown_of (hc44 _ _)))
        have S2 : Aside (SW k w0 blk off d (grow (wr.drewN nq) osq)) := S1.out.grown nq osq
        clear l44a l44b hc44 S1
        generalize grow (wr.drewN nq) osq = w2 at S2 ⊢
        clear nq osq
        go_wp2
        go_roundg (j - (h + 1))
        case measure => omega
        case rel => exact ⟨h + 1, j, by go_num, rfl, by omega, by omega, hjb, Nat.le_refl _, S2, .inr (by rw [Nat.add_sub_cancel]; exact hlv), HE.out.2⟩
      | false =>
        have ea45 : ((h : Int)).toNat = h := by omega
        have pa45 : (0 : Int) ≤ (h : Int) := by omega
        have ba45 : (h : Int) < (d.size : Int) := by omega
        have ra45 : IntKind.i64.wrap ((h : Int)) = (h : Int) := by rw [IntKind.wrap_i64]; omega
        have ec45 : ((a : Int)).toNat = a := by omega
        have pc45 : (0 : Int) ≤ (a : Int) := by omega
        have bc45 : (a : Int) < (d.size : Int) := by omega
        have rc45 : IntKind.i64.wrap ((a : Int)) = (a : Int) := by rw [IntKind.wrap_i64]; omega
        obtain ⟨x45, hx45⟩ : ∃ x, x = d[h]! := ⟨_, rfl⟩
        obtain ⟨y45, hy45⟩ : ∃ x, x = d[a]! := ⟨_, rfl⟩
        have l45a := S1.out.ld R (by omega) P (h) (by omega)
        have l45b := S1.out.ld R (by omega) P (a) (by omega)
        rw [← hx45] at l45a
        rw [← hy45] at l45b
        have hc45 := S1.out.cmp HC.out (by omega) x45 y45
        have hv45 : ¬ cf x45 y45 < 0 := by rw [hx45, hy45]; exact of_decide_eq_false hlv
        have hd45 : decide (cf x45 y45 < 0) = false := decide_eq_false hv45
        clear hx45 hy45
        go_wp2_with fail
        go_quiet_grown (first | (go_at_fn g; refine Calls.grown_of (hc45 _ _)))
        have S2 : Aside (SW k w0 blk off d (grow (wr.drewN nq) osq)) := S1.out.grown nq osq
        clear l45a l45b hc45 S1
        generalize grow (wr.drewN nq) osq = w2 at S2 ⊢
        clear nq osq
        go_wp2
        go_roundg (h - i)
        case measure => omega
        case rel => exact ⟨i, h, rfl, rfl, by omega, by omega, by omega, Nat.le_refl _, S2, HE.out.1, .inr hlv⟩
    · have hltz : ¬ (i : Int) < (j : Int) := by omega
      obtain rfl : i = j := by omega
      go_wp2
      go_loopg [13] (i - a) (fun kx s13 wr2 => ∃ (q : Nat) (dk : Array Fld), s13 = .int .i64 q ∧ a ≤ q ∧ q + 1 ≤ i ∧ i - q ≤ kx ∧ dk.size = d.size ∧ Aside (SW k w0 blk off dk wr2) ∧ Hid (Rot a (a + 1) (q + 1) d dk ∧ PermIn a b d dk))
      case atStart => exact ⟨a, d, rfl, Nat.le_refl _, by omega, Nat.le_refl _, rfl, S1, Rot.right d (by omega), permIn_refl _ _ _⟩
      case round =>
        clear S1
        obtain ⟨q, dk, rfl, haq, hqi, hkx2, hds, S1, HF⟩ := hrel
        have ri : IntKind.i64.wrap ((i : Int) - 1) = (i : Int) - 1 := by rw [IntKind.wrap_i64]; omega
        by_cases hq : q + 1 < i
        · have hqz : (q : Int) < (i : Int) - 1 := by omega
          have ea46 : ((q : Int)).toNat = q := by omega
          have pa46 : (0 : Int) ≤ (q : Int) := by omega
          have ba46 : (q : Int) < (d.size : Int) := by omega
          have ra46 : IntKind.i64.wrap ((q : Int)) = (q : Int) := by rw [IntKind.wrap_i64]; omega
          have ec46 : ((q : Int) + 1).toNat = q + 1 := by omega
          have pc46 : (0 : Int) ≤ (q : Int) + 1 := by omega
          have bc46 : (q : Int) + 1 < (d.size : Int) := by omega
          have rc46 : IntKind.i64.wrap ((q : Int) + 1) = (q : Int) + 1 := by rw [IntKind.wrap_i64]; omega
          have S2 : Aside (SW k w0 blk off (swp dk (q) (q + 1)) ((wr.drew.setCells blk (off + (q) * k) (enc dk[q + 1]!)).setCells blk (off + (q + 1) * k) (enc dk[q]!))) := S1.out.swapped R (q) (q + 1) (by omega) (by omega)
          have l46a := S1.out.ld1 R (by omega) P (q) (by omega)
          have l46b := S1.out.ld1 R (by omega) P (q + 1) (by omega)
          have s46a := S1.out.st1 R (by omega) P (q) (by omega) dk[q + 1]!
          have s46b := S1.out.st2 R (by omega) P (q) (q + 1) (by omega) (by omega) dk[q + 1]! dk[q]!
          have n46a : (enc dk[q]!).length = k := R.hk _
          have n46b : (enc dk[q + 1]!).length = k := R.hk _
          generalize enc dk[q]! = cI46 at S2 l46a s46b n46a
          generalize enc dk[q + 1]! = cJ46 at S2 l46b s46a s46b n46b
          clear S1
          go_wp2_with fail
          go_big_region_o
          clear l46a l46b s46a s46b
          generalize (wr.drew.setCells blk (off + (q) * k) cJ46).setCells blk (off + (q + 1) * k) cI46 = w2 at S2 ⊢
          go_wp2
          go_roundg (i - (q + 1))
          case measure => omega
          case rel =>
            exact ⟨q + 1, swp dk q (q + 1), by go_num, by omega, by omega, Nat.le_refl _, by rw [swp_size]; exact hds, S2, HF.out.1.up haq (by omega), permIn_swp HF.out.2 (by omega) (by omega) (by omega) (by omega) hb⟩
        · have hqz : ¬ ((q : Int) < (i : Int) - 1) := by omega
          have hqi' : q + 1 = i := by omega
          go_wp2
          (try simp only [Exit.inBlock, Exit.then]); refine bodyPost_ret (results_none rfl _ _ _) rfl ?_
          refine ⟨rfl, dk, S1.out, HF.out.2, ?_⟩
          have h1 := HF.out.1
          rw [hqi'] at h1
          have h2 := SR.out
          have ham : m = a + 1 := by omega
          rw [ham] at h2
          exact ins_first OO.out h2 (by omega) hjb (by have := HE.out.1; rw [ham] at this; exact this) HE.out.2 h1
end Go.Sh.Sym
