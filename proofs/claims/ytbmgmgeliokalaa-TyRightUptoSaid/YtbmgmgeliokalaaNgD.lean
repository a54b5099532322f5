/- NgD: part of the proof: a shadow of the machine that is proved sound, and what the functions of this seat compute. Conditions: none. -/
import Derived.Test.YtbmgmgeliokalaaNgC
import Derived.Test.YtbmgmgeliokalaaShC
import Derived.Test.YtbmgmgeliokalaaProg
import Derived.Shelf.Small.Strs
import Derived.Sort.Grow
import Derived.Test.YtbmgmgeliokalaaTgB
set_option linter.unusedSimpArgs false
/- slices.symMergeCmpFunc, stableCmpFunc, SortStableFunc at fields. -/
namespace Go.Sh.Sym
open Go Go.Proofs Go.Shelf Go.RowKit Go.Lib Go.Sort
set_option linter.unusedVariables false
set_option linter.unusedSimpArgs false
variable {P : Program} {k g : Nat} {cb : Array Value} {w0 : World} {blk off cap : Nat} {d0 : Array Fld}

theorem sym (L : Lay P k) (hO : SWO (ltOf cf)) (hC : CmpLays P g cb enc k cf blk off d0.size w0) (eg : ∀ args w, (callFunc g args).run P w = .ok (.enter g args) w) (R : Rw k w0 blk off d0) : ∀ (n : Nat) (d : Array Fld) (W : World) (a m b : Nat), b - a ≤ n → d0.size = d.size → SW k w0 blk off d W → a < m → m < b → b ≤ d.size → d.size < 1152921504606846976 → SortedIn (ltOf cf) a m d → SortedIn (ltOf cf) m b d →
    Calls P 76 #[.slice (some ⟨blk, off, none⟩) d.size cap, .int .i64 a, .int .i64 m, .int .i64 b, .func (.func g) #[] cb] W fun e w' => e = .returned (.tuple #[]) ∧ ∃ d', SW k w0 blk off d' w' ∧ PermIn a b d d' ∧ SortedIn (ltOf cf) a b d'
  | 0, d, W, a, m, b, hn, hs, S, h1, h2, h3, h4, h5, h6 => by omega
  | n + 1, d, W, a, m, b, hn, hs, S, h1, h2, h3, h4, h5, h6 => by
    by_cases c1 : m = a + 1
    · exact sym1 L hO hC eg R d W hs S a m b (by omega) (by omega) h2 h3 h4 h6
    · by_cases c2 : b = m + 1
      · exact sym2 L hO hC eg R d W hs S a m b (by omega) (by omega) (by omega) h3 h4 h5
      · refine symStep L hO hC eg R d W hs S a m b (by omega) (by omega) h3 h4 h5 h6 fun d' W' a' m' b' q1 q2 q3 q4 q5 q6 q7 q8 => ?_
        have hdd : d'.size = d.size := q1.symm.trans hs
        have := sym L hO hC eg R n d' W' a' m' b' (by omega) q1 q2 q3 q4 q5 (by omega) q7 q8
        exact this

/-- The sort's lay, for the kit's insertion. -/
def renI : Shelf.Ren := { f := fun x => match x with | 20 => 75 | n => n, t := fun x => match x with | 0 => 0 | 3 => 3 | 4 => 4 | 22 => 50 | 24 => 52 | 25 => 54 | n => n, g := fun n => n }
theorem layI (L : Lay P k) : SlLaysF0.n20 P renI :=
  { mixed := L.mixed, f20 := ⟨"slices.insertionSortCmpFunc[limbeck/ty.field]", by rfl, Eq.trans L.f75 (congrArg some (by kernel_rfl))⟩, t0 := L.t0, a0 := L.a0, z0 := L.z0, v0 := L.v0, t3 := L.t3, a3 := L.a3, z3 := L.z3, v3 := L.v3, t4 := L.t4, a4 := L.a4, z4 := L.z4, v4 := L.v4, t22 := L.t50, a22 := L.a50, z22 := L.z50, v22 := L.v50, t25 := L.t54, a25 := L.a54, z25 := L.z54, v25 := L.v54 }

theorem cmpOn (hC : CmpLays P g cb enc k cf blk off d0.size w0) (R : Rw k w0 blk off d0) {d : Array Fld} {W : World} (hs : d0.size = d.size) (S : SW k w0 blk off d W) : CmpLays P g cb enc k cf blk off d.size W := fun m os dk hd x y => by
  obtain ⟨n, os0, rfl⟩ := S
  rw [sortWorldK_on enc k w0 blk off n m d dk os0 os R.hblk hd]
  exact hC _ _ dk (hd.trans hs.symm) x y

theorem insertion (L : Lay P k) (hO : SWO (ltOf cf)) (hC : CmpLays P g cb enc k cf blk off d0.size w0) (eg : ∀ args w, (callFunc g args).run P w = .ok (.enter g args) w) (R : Rw k w0 blk off d0) (d : Array Fld) (W : World) (hs : d0.size = d.size) (S : SW k w0 blk off d W) (a b : Nat) (hab : a ≤ b) (hb : b ≤ d.size) (hsz : d.size < 1152921504606846976) :
    Calls P 75 #[.slice (some ⟨blk, off, none⟩) d.size cap, .int .i64 a, .int .i64 b, .func (.func g) #[] cb] W fun e w' => e = .returned (.tuple #[]) ∧ ∃ d', SW k w0 blk off d' w' ∧ PermIn a b d d' ∧ SortedIn (ltOf cf) a b d' := by
  refine (AnyQ.insertionSortCmpFunc (layI L) k L.aE L.zE enc R.hk R.h1 cf g cb blk off cap a b d W eg (cmpOn hC R hs S) (S.holds R.hblk R.hH hs.symm) (S.lt R.hblk) hab hb (by omega)).mono ?_
  rintro e w' ⟨rfl, n, os, rfl⟩
  have h := insertionSort_holds (lt := ltOf cf) hO d a b hab hb
  exact ⟨rfl, _, S.on R.hblk n _ os h.1.1, h.1, h.2⟩

set_option maxHeartbeats 8000000 in
set_option maxRecDepth 1000000 in
theorem stable (L : Lay P k) (hO : SWO (ltOf cf)) (hC : CmpLays P g cb enc k cf blk off d0.size w0) (eg : ∀ args w, (callFunc g args).run P w = .ok (.enter g args) w) (R : Rw k w0 blk off d0) (d : Array Fld) (W : World) (hs : d0.size = d.size) (S : SW k w0 blk off d W) (hsz : d.size < 1152921504606846976) :
    Calls P 57 #[.slice (some ⟨blk, off, none⟩) d.size cap, .int .i64 d.size, .func (.func g) #[] cb] W fun e w' => e = .returned (.tuple #[]) ∧ ∃ d', SW k w0 blk off d' w' ∧ PermIn 0 d.size d d' ∧ SortedIn (ltOf cf) 0 d.size d' := by
  have mixed := L.mixed; have t0 := L.t0; have a0 := L.a0; have z0 := L.z0; have v0 := L.v0; have t3 := L.t3; have a3 := L.a3; have z3 := L.z3; have v3 := L.v3; have t4 := L.t4; have a4 := L.a4; have z4 := L.z4; have v4 := L.v4; have t50 := L.t50; have a50 := L.a50; have z50 := L.z50; have v50 := L.v50; have t54 := L.t54; have a54 := L.a54; have z54 := L.z54; have v54 := L.v54; have t62 := L.t62; have a62 := L.a62; have z62 := L.z62; have v62 := L.v62; have aE := L.aE; have zE := L.zE
  have e75 : ∀ args w, (callFunc 75 args).run P w = .ok (.enter 75 args) w := enters_of L.f75 (by kernel_rfl) rfl
  have e76 : ∀ args w, (callFunc 76 args).run P w = .ok (.enter 76 args) w := enters_of L.f76 (by kernel_rfl) rfl
  have INS := hid (fun (d' : Array Fld) (W : World) (h : d0.size = d'.size) S a b h1 h2 h3 => insertion (cap := cap) L hO hC eg R d' W h S a b h1 h2 h3)
  have SYM := hid (fun (d' : Array Fld) (W : World) (a m b : Nat) (h : d0.size = d'.size) S h1 h2 h3 h4 h5 h6 => sym (cap := cap) L hO hC eg R (b - a) d' W a m b (Nat.le_refl _) h S h1 h2 h3 h4 h5 h6)
  have OO := hid hO
  have S0 : Aside (SW k w0 blk off d W) := S
  obtain ⟨n, hn⟩ : ∃ n, n = d.size := ⟨_, rfl⟩
  rw [← hn] at hsz ⊢
  have hn' := hid hn
  have HS := hid hs
  clear S hC hO hn eg hs
  go_enter L.f57, Try.ntmps57
  go_wp2
  go_loopg [7, 8] (n + 20) (fun kx s7 s8 wr => ∃ (a : Nat) (dk : Array Fld), s7 = .int .i64 a ∧ s8 = .int .i64 ((a : Int) + 20) ∧ a ≤ n ∧ n - a ≤ kx ∧ Aside (SW k w0 blk off dk wr) ∧ Hid (dk.size = n ∧ 20 ∣ a ∧ PermIn 0 n d dk ∧ ∀ s, 20 ∣ s → s < a → SortedIn (ltOf cf) s (s + 20) dk))
  case atStart => exact ⟨0, d, rfl, rfl, Nat.zero_le _, by omega, S0, hn'.out.symm, ⟨0, rfl⟩, permIn_refl _ _ _, fun s _ h => by omega⟩
  case round =>
    clear S0
    obtain ⟨a, dk, rfl, rfl, han, hkx, S1, HE⟩ := hrel
    have ra : IntKind.i64.wrap ((a : Int) + 20) = (a : Int) + 20 := by rw [IntKind.wrap_i64]; omega
    by_cases hlt : a + 20 ≤ n
    · have hltz : (a : Int) + 20 ≤ (n : Int) := by omega
      have ra2 : IntKind.i64.wrap ((a : Int) + 20 + 20) = (a : Int) + 20 + 20 := by rw [IntKind.wrap_i64]; omega
      have q := INS.out dk wr (HS.out.trans (hn'.out.symm.trans HE.out.1.symm)) S1.out a (a + 20) (by omega) (by rw [HE.out.1]; exact hlt) (by rw [HE.out.1]; exact hsz)
      rw [HE.out.1, show ((a + 20 : Nat) : Int) = (a : Int) + 20 by omega] at q
      have QQ := hid q
      clear q S1
      go_wp2_with (go_at_fn 75; refine QQ.out.mono ?_; rintro e' w1 ⟨rfl, d1, S', k1, k2⟩)
      go_roundg (n - (a + 20))
      case measure => omega
      case rel =>
        obtain ⟨i1, i2, i3, i4⟩ := HE.out
        refine ⟨a + 20, d1, by go_num, by go_num, hlt, Nat.le_refl _, S', k1.1.trans i1, ?_, permIn_trans _ _ _ _ _ i3 (permIn_le _ _ k1 (by omega) (by omega) (by omega)), fun s h1 h2 => ?_⟩
        · obtain ⟨q, rfl⟩ := i2; exact ⟨q + 1, by omega⟩
        · have := mult_le h1 i2 (by omega)
          by_cases c : s = a
          · rw [c]; exact k2
          · have h3 : s + 20 ≤ a := by obtain ⟨q1, rfl⟩ := h1; obtain ⟨q2, rfl⟩ := i2; omega
            exact sorted_keep (i4 s h1 (by omega)) k1 (.inl h3)
    · have hltz : ¬ ((a : Int) + 20 ≤ (n : Int)) := by omega
      have q := INS.out dk wr (HS.out.trans (hn'.out.symm.trans HE.out.1.symm)) S1.out a n (by omega) (by rw [HE.out.1]; exact Nat.le_refl _) (by rw [HE.out.1]; exact hsz)
      rw [HE.out.1] at q
      have QQ := hid q
      clear q S1
      go_wp2_with (go_at_fn 75; refine QQ.out.mono ?_; rintro e' w1 ⟨rfl, d1, S1', k1, k2⟩)
      have S1 : Aside (SW k w0 blk off d1 w1) := S1'
      have HB : Hid (d1.size = n ∧ PermIn 0 n d d1 ∧ Blk (ltOf cf) 20 n d1) := by
        obtain ⟨i1, i2, i3, i4⟩ := HE.out
        refine ⟨k1.1.trans i1, permIn_trans _ _ _ _ _ i3 (permIn_le _ _ k1 (by omega) (by omega) (by omega)), fun s h1 => ?_⟩
        by_cases c : s < a
        · have h3 : s + 20 ≤ a := by obtain ⟨q1, rfl⟩ := h1; obtain ⟨q2, rfl⟩ := i2; omega
          rw [Nat.min_eq_left (by omega)]
          exact sorted_keep (i4 s h1 c) k1 (.inl h3)
        · by_cases c2 : s = a
          · rw [c2, Nat.min_eq_right (by omega)]; exact k2
          · intro i j hi hij hj
            have : n < s := by obtain ⟨q1, rfl⟩ := h1; obtain ⟨q2, rfl⟩ := i2; omega
            omega
      clear HE k1 k2 QQ S1'
      -- the merges
      go_loopg [6, 7, 8, 9] (n) (fun kx s6 s7 s8 s9 wr => ∃ (bs : Nat) (dk : Array Fld) , s6 = .int .i64 bs ∧ 20 ≤ bs ∧ n - bs ≤ kx ∧ bs < 2305843009213693952 ∧ Aside (SW k w0 blk off dk wr) ∧ Hid (dk.size = n ∧ PermIn 0 n d dk ∧ Blk (ltOf cf) bs n dk))
      case atStart => exact ⟨20, d1, rfl, Nat.le_refl _, by omega, by omega, S1, HB⟩
      case round =>
        clear S1 HB
        obtain ⟨bs, dk, rfl, hbs, hkx2, hbl, S1, HB⟩ := hrel
        by_cases hlt2 : bs < n
        · have hz : (bs : Int) < (n : Int) := by omega
          have r1 : IntKind.i64.wrap (2 * (bs : Int)) = 2 * (bs : Int) := by rw [IntKind.wrap_i64]; omega
          have r1' : IntKind.i64.wrap ((bs : Int) * 2) = (bs : Int) * 2 := by rw [IntKind.wrap_i64]; omega
          go_wp2
          go_loopg [7, 8] (n + 1) (fun ky s7 s8 wr => ∃ (a : Nat) (dk : Array Fld), s7 = .int .i64 a ∧ s8 = .int .i64 ((a : Int) + 2 * (bs : Int)) ∧ a ≤ n ∧ n - a ≤ ky ∧ Aside (SW k w0 blk off dk wr) ∧ Hid (dk.size = n ∧ 2 * bs ∣ a ∧ PermIn 0 n d dk ∧ (∀ s, 2 * bs ∣ s → s < a → SortedIn (ltOf cf) s (s + 2 * bs) dk) ∧ ∀ s, bs ∣ s → a ≤ s → SortedIn (ltOf cf) s (min (s + bs) n) dk))
          case atStart => exact ⟨0, dk, rfl, by simp, Nat.zero_le _, by omega, S1, HB.out.1, ⟨0, rfl⟩, HB.out.2.1, fun s _ h => by omega, fun s h1 _ => HB.out.2.2 s h1⟩
          case round =>
            clear S1 HB
            obtain ⟨a, dk, rfl, rfl, han, hky, S1, HE⟩ := hrel
            have r2 : IntKind.i64.wrap ((a : Int) + 2 * (bs : Int)) = (a : Int) + 2 * (bs : Int) := by rw [IntKind.wrap_i64]; omega
            have r3 : IntKind.i64.wrap ((a : Int) + (bs : Int)) = (a : Int) + (bs : Int) := by rw [IntKind.wrap_i64]; omega
            by_cases hl3 : a + 2 * bs ≤ n
            · have hz3 : (a : Int) + 2 * (bs : Int) ≤ (n : Int) := by omega
              have r4 : IntKind.i64.wrap ((a : Int) + 2 * (bs : Int) + 2 * (bs : Int)) = (a : Int) + 2 * (bs : Int) + 2 * (bs : Int) := by rw [IntKind.wrap_i64]; omega
              have q := SYM.out dk wr a (a + bs) (a + 2 * bs) (HS.out.trans (hn'.out.symm.trans HE.out.1.symm)) S1.out (by omega) (by omega) (by rw [HE.out.1]; exact hl3) (by rw [HE.out.1]; exact hsz) (by
                have := HE.out.2.2.2.2 a (Nat.dvd_trans ⟨2, by omega⟩ HE.out.2.1) (Nat.le_refl _); rwa [Nat.min_eq_left (by omega)] at this) (by
                have := HE.out.2.2.2.2 (a + bs) (Nat.dvd_add (Nat.dvd_trans ⟨2, by omega⟩ HE.out.2.1) ⟨1, by omega⟩) (by omega)
                rwa [Nat.min_eq_left (by omega), show a + bs + bs = a + 2 * bs by omega] at this)
              rw [HE.out.1, show ((a + bs : Nat) : Int) = (a : Int) + (bs : Int) by omega, show ((a + 2 * bs : Nat) : Int) = (a : Int) + 2 * (bs : Int) by omega] at q
              have QQ := hid q
              clear q S1
              go_wp2_with (go_at_fn 76; refine QQ.out.mono ?_; rintro e' w1 ⟨rfl, d1, S', k1, k2⟩)
              go_roundg (n - (a + 2 * bs))
              case measure => omega
              case rel =>
                obtain ⟨i1, i2, i3, i4, i5⟩ := HE.out
                refine ⟨a + 2 * bs, d1, by first | rfl | (congr 1; omega), by first | rfl | (congr 1; omega), hl3, Nat.le_refl _, S', k1.1.trans i1, Nat.dvd_add i2 ⟨1, by omega⟩, permIn_trans _ _ _ _ _ i3 (permIn_le _ _ k1 (by omega) (by omega) (by omega)), fun s h1 h2 => ?_, fun s h1 h2 => sorted_keep (i5 s h1 (by omega)) k1 (.inr h2)⟩
                have h3 := mult_le h1 i2 h2
                by_cases c : s = a
                · rw [c]; exact k2
                · refine sorted_keep (i4 s h1 (by omega)) k1 (.inl ?_)
                  refine Nat.le_of_not_lt fun hc => ?_
                  have := mult_le i2 h1 hc
                  omega
            · have hz3 : ¬ ((a : Int) + 2 * (bs : Int) ≤ (n : Int)) := by omega
              have fin : ∀ d1 : Array Fld, (d1.size = n ∧ PermIn a n dk d1 ∧ SortedIn (ltOf cf) a n d1) → Hid (d1.size = n ∧ PermIn 0 n d d1 ∧ Blk (ltOf cf) (bs * 2) n d1) := fun d1 hq => by
                obtain ⟨q1, k1, k2⟩ := hq
                obtain ⟨i1, i2, i3, i4, i5⟩ := HE.out
                refine ⟨q1, permIn_trans _ _ _ _ _ i3 (permIn_le _ _ k1 (by omega) (by omega) (by omega)), fun s h1 => ?_⟩
                rw [Nat.mul_comm] at h1
                rw [Nat.mul_comm]
                by_cases c : s < a
                · have h3 : s + 2 * bs ≤ a := Nat.le_of_not_lt fun hc => by have := mult_le i2 h1 hc; omega
                  rw [Nat.min_eq_left (by omega)]
                  exact sorted_keep (i4 s h1 c) k1 (.inl h3)
                · by_cases c2 : s = a
                  · rw [c2, Nat.min_eq_right (by omega)]; exact k2
                  · intro i j hi hij hj
                    have : a + 2 * bs ≤ s := Nat.le_of_not_lt fun hc => by have := mult_le h1 i2 hc; omega
                    omega
              have FIN := hid fin
              clear fin
              by_cases hl4 : a + bs < n
              · have hz4 : (a : Int) + (bs : Int) < (n : Int) := by omega
                have q := SYM.out dk wr a (a + bs) n (HS.out.trans (hn'.out.symm.trans HE.out.1.symm)) S1.out (by omega) (by omega) (by rw [HE.out.1]; exact Nat.le_refl _) (by rw [HE.out.1]; exact hsz) (by
                  have := HE.out.2.2.2.2 a (Nat.dvd_trans ⟨2, by omega⟩ HE.out.2.1) (Nat.le_refl _); rwa [Nat.min_eq_left (by omega)] at this) (by
                  have := HE.out.2.2.2.2 (a + bs) (Nat.dvd_add (Nat.dvd_trans ⟨2, by omega⟩ HE.out.2.1) ⟨1, by omega⟩) (by omega)
                  rwa [Nat.min_eq_right (by omega)] at this)
                rw [HE.out.1, show ((a + bs : Nat) : Int) = (a : Int) + (bs : Int) by omega] at q
                have QQ := hid q
                have HE1 := hid HE.out.1
                clear q S1 HE
                go_wp2_with (go_at_fn 76; refine QQ.out.mono ?_; rintro e' w1 ⟨rfl, d1, S', k1, k2⟩)
                go_roundg (n - bs * 2)
                case measure => omega
                case rel => exact ⟨bs * 2, d1, by first | rfl | go_num | (congr 1; omega), by omega, Nat.le_refl _, by omega, S', FIN.out d1 ⟨k1.1.trans HE1.out, k1, k2⟩⟩
              · have hz4 : ¬ ((a : Int) + (bs : Int) < (n : Int)) := by omega
                go_wp2
                go_roundg (n - bs * 2)
                case measure => omega
                case rel =>
                  refine ⟨bs * 2, dk, by first | rfl | go_num | (congr 1; omega), by omega, Nat.le_refl _, by omega, S1, FIN.out dk ⟨HE.out.1, permIn_refl _ _ _, ?_⟩⟩
                  have := HE.out.2.2.2.2 a (Nat.dvd_trans ⟨2, by omega⟩ HE.out.2.1) (Nat.le_refl _)
                  rwa [Nat.min_eq_right (by omega)] at this
        · have hz : ¬ ((bs : Int) < (n : Int)) := by omega
          go_wp2
          (try simp only [Exit.inBlock, Exit.then]); refine bodyPost_end (results_none rfl _ _ _) rfl ?_
          refine ⟨rfl, dk, S1.out, HB.out.2.1, ?_⟩
          have := HB.out.2.2 0 ⟨0, rfl⟩
          rwa [Nat.min_eq_right (by omega)] at this

set_option maxHeartbeats 8000000 in
set_option maxRecDepth 1000000 in
/-- slices.SortStableFunc: a row in order, of the same fields. -/
theorem sortStable (L : Lay P k) (hO : SWO (ltOf cf)) (hC : CmpLays P g cb enc k cf blk off d0.size w0) (eg : ∀ args w, (callFunc g args).run P w = .ok (.enter g args) w) (R : Rw k w0 blk off d0) (hsz : d0.size < 1152921504606846976) :
    Calls P 44 #[.slice (some ⟨blk, off, none⟩) d0.size cap, .func (.func g) #[] cb] w0 fun e w' => e = .returned (.tuple #[]) ∧ ∃ d', SW k w0 blk off d' w' ∧ PermIn 0 d0.size d0 d' ∧ SortedIn (ltOf cf) 0 d0.size d' := by
  have mixed := L.mixed; have t0 := L.t0; have a0 := L.a0; have z0 := L.z0; have v0 := L.v0; have t3 := L.t3; have a3 := L.a3; have z3 := L.z3; have v3 := L.v3; have t4 := L.t4; have a4 := L.a4; have z4 := L.z4; have v4 := L.v4; have t50 := L.t50; have a50 := L.a50; have z50 := L.z50; have v50 := L.v50; have t54 := L.t54; have a54 := L.a54; have z54 := L.z54; have v54 := L.v54; have t62 := L.t62; have a62 := L.a62; have z62 := L.z62; have v62 := L.v62; have aE := L.aE; have zE := L.zE
  have e57 : ∀ args w, (callFunc 57 args).run P w = .ok (.enter 57 args) w := enters_of L.f57 (by kernel_rfl) rfl
  have q := stable (cap := cap) L hO hC eg R d0 w0 rfl (SWK.start R.hH) hsz
  have QQ := hid q
  clear q hC hO
  go_enter L.f44, Try.ntmps44
  go_wp2_with (go_at_fn 57; refine QQ.out.mono ?_; rintro e' w1 ⟨rfl, d1, S', k1, k2⟩)
  (try simp only [Exit.inBlock, Exit.then]); refine bodyPost_end (results_none rfl _ _ _) rfl ?_
  exact ⟨rfl, d1, S', k1, k2⟩
end Go.Sh.Sym

/- What the stable sort of fields leaves in memory. -/
namespace Go.Sh.Sym
open Go Go.Proofs Go.Shelf Go.RowKit Go.Lib Go.Sort
set_option linter.unusedVariables false
set_option linter.unusedSimpArgs false

/-- The cells of fields, one behind the other. -/
noncomputable def flatF (l : List Fld) : List Value := l.flatMap enc
theorem flatF_len : ∀ l : List Fld, (flatF l).length = l.length * 6
  | [] => rfl
  | x :: l => by
    rw [flatF, List.flatMap_cons, List.length_append, enc_len, List.length_cons]
    have := flatF_len l
    rw [flatF] at this; omega
theorem flatF_get : ∀ (l : List Fld) (t : Nat), t < l.length * 6 → (flatF l)[t]? = some ((enc (l.getD (t / 6) default))[t % 6]!)
  | [], t, h => by simp at h
  | x :: l, t, h => by
    rw [flatF, List.flatMap_cons]
    by_cases c : t < 6
    · rw [List.getElem?_append_left (by rw [enc_len]; exact c), show t / 6 = 0 by omega, show t % 6 = t by omega, List.getD_cons_zero]
      rw [List.getElem?_eq_getElem (by rw [enc_len]; exact c), getElem!_pos _ t (by rw [enc_len]; exact c)]
    · rw [List.getElem?_append_right (by rw [enc_len]; omega), enc_len]
      have := flatF_get l (t - 6) (by rw [List.length_cons] at h; omega)
      rw [flatF] at this
      rw [this, show t / 6 = (t - 6) / 6 + 1 by omega, show t % 6 = (t - 6) % 6 by omega, List.getD_cons_succ]
theorem flatK_list (d : Array Fld) : (flatK enc 6 d).toList = flatF d.toList := by
  apply List.ext_getElem?
  intro t
  by_cases h : t < d.size * 6
  · rw [flatF_get _ _ (by simpa using h)]
    have h1 := get_flatK enc 6 d t h
    rw [getElem!_pos _ t (by rw [size_flatK]; exact h)] at h1
    rw [Array.getElem?_toList, Array.getElem?_eq_getElem (by rw [size_flatK]; exact h), h1]
    congr 3
    rw [List.getD_eq_getElem?_getD, Array.getElem?_toList, getElem!_def]
    rfl
  · rw [List.getElem?_eq_none (by simp; omega), List.getElem?_eq_none (by rw [flatF_len]; simp; omega)]

theorem holds_of {w : World} {bo : Nat} {arr : Array Value} {T : TypeId} (hw : w.heap[bo]? = some (.cells arr T (0, 0))) {l : List Fld} (h : arr.toList.take (l.length * 6) = flatF l) : HoldsK enc 6 w bo 0 l.toArray := by
  intro j hj
  have hj' : j < l.length * 6 := by simpa using hj
  constructor
  · unfold World.cell?
    simp only [hw, Nat.zero_add]
    have h1 : arr.toList[j]? = (flatF l)[j]? := by rw [← h, List.getElem?_take_of_lt hj']
    rw [Array.getElem?_toList] at h1
    have h2 := flatK_list l.toArray
    rw [show l.toArray.toList = l from rfl] at h2
    rw [← h2, Array.getElem?_toList] at h1
    rw [getElem!_pos _ j hj]
    show arr[j]? = _
    rw [h1, Array.getElem?_eq_getElem hj]; rfl
  · unfold World.frozen?
    simp [hw]

theorem heap_other {w0 w : World} {bo : Nat} {d : Array Fld} (S : SW 6 w0 bo 0 d w) {b : Nat} (hb : b < w0.heap.size) (hn : b ≠ bo) : w.heap[b]? = w0.heap[b]? := by
  obtain ⟨n, os, rfl⟩ := S
  unfold sortWorldK grow putRowK putRow mapBlock
  change ((w0.heap.modify bo _) ++ os)[b]? = _
  rw [Array.getElem?_append_left (by simpa using hb), Array.getElem?_modify, if_neg (Ne.symm hn)]
theorem heap_row {w0 w : World} {bo : Nat} {d : Array Fld} (S : SW 6 w0 bo 0 d w) (hb : bo < w0.heap.size) {arr : Array Value} {T : TypeId} (hw : w0.heap[bo]? = some (.cells arr T (0, 0))) (hs : d.size * 6 ≤ arr.size) :
    ∃ arr' : Array Value, w.heap[bo]? = some (.cells arr' T (0, 0)) ∧ arr'.size = arr.size ∧ arr'.toList.take (d.size * 6) = flatF d.toList := by
  obtain ⟨n, os, rfl⟩ := S
  refine ⟨putCells id 0 (flatK enc 6 d) arr, ?_, by simp [putCells], ?_⟩
  · unfold sortWorldK grow putRowK putRow mapBlock
    change ((w0.heap.modify bo _) ++ os)[bo]? = _
    rw [Array.getElem?_append_left (by simpa using hb), Array.getElem?_modify, if_pos rfl, hw]
    rfl
  · rw [← flatK_list]
    apply List.ext_getElem?
    intro t
    by_cases h : t < d.size * 6
    · rw [List.getElem?_take_of_lt h, Array.getElem?_toList, Array.getElem?_toList, putCells, Array.getElem?_mapIdx, Array.getElem?_eq_getElem (by omega), Option.map_some, if_pos ⟨by omega, by rw [size_flatK]; omega⟩, Array.getElem?_eq_getElem (by rw [size_flatK]; exact h), getElem!_pos _ _ (by rw [size_flatK]; omega)]
      rfl
    · rw [List.getElem?_eq_none (by rw [List.length_take]; omega), List.getElem?_eq_none (by simp; omega)]
theorem sort_rest {w0 w : World} {bo : Nat} {d : Array Fld} (S : SW 6 w0 bo 0 d w) : w.os = w0.os ∧ w.tape = w0.tape ∧ w.output = w0.output := by
  obtain ⟨n, os, rfl⟩ := S
  exact ⟨rfl, rfl, rfl⟩
end Go.Sh.Sym
namespace Go.Sh
open Go
set_option linter.unusedVariables false
/-- What is new, sealed; what was there, as it was told. -/
def freshS (S : Nat → Nat) (w w' : World) : Nat → Nat := fun b => if b < w.heap.size then S b else (sealAll w').S b
def LoneEndS (S : Nat → Nat) (w : World) (out : AV) (e : Ending) (w' : World) : Prop :=
  ∃ v, e = .returned v ∧ w'.os = w.os ∧ w'.tape = w.tape ∧ w'.output = w.output ∧ w.heap.size ≤ w'.heap.size ∧ (∀ b, b < w.heap.size → w'.heap[b]? = w.heap[b]?) ∧ RepA (freshS S w w') w' [] out v
/-- A function by itself, whose answer may hold what its arguments hold. -/
theorem loneS {P : Program} {f : Nat} {args : List AV} {out : AV} (hc : Callable P f) (ha : ∀ a ∈ args, AV.lt 0 a) (ho : AV.lt 0 out)
    (h : ∀ S w (argv : Array Value), Within ⟨S, fun _ => .none, []⟩ w → RepL S w [] args argv.toList → Calls P f argv w (LoneEndS S w out)) (hh : Heap) : Ends P f args hh (.ret out) hh := by
  refine ⟨hc, fun d G w argv hr hhp hw => ?_⟩
  refine (h G.S w argv hw (RepL.free (fun b => Nat.le_refl _) hr ha)).mono fun e w' hq => ?_
  obtain ⟨v, rfl, q1, q2, q3, q4, q5, q6⟩ := hq
  have key : ∀ b, b < w.heap.size → w'.heap[b]? = w.heap[b]? ∧ freshS G.S w w' b = G.S b ∧ G.O b = G.O b := fun b hb => ⟨q5 b hb, if_pos hb, rfl⟩
  have hx : Ext G.S w G.μ (freshS G.S w w') w' G.μ := by
    refine ⟨fun b => ?_, fun b o m vals hs hr => ?_, fun _ _ h => h⟩
    · unfold freshS
      split
      · exact Nat.le_refl _
      · rename_i hb; rw [within_lt hw (by omega)]; exact Nat.zero_le _
    · by_cases hb : b < w.heap.size
      · rw [row_of_same (q5 b hb)]; exact hr
      · exfalso
        unfold row? at hr
        rw [Array.getElem?_eq_none (by omega)] at hr
        cases hr
  refine ⟨⟨freshS G.S w w', G.O, G.μ⟩, ⟨q1, q2, q3, q4, hx, fun b hb _ => key b hb⟩, heap_keep (G' := ⟨_, G.O, G.μ⟩) hx rfl key hhp, ?_, ?_⟩
  · intro b hb
    have hb : freshS G.S w w' b ≠ 0 := hb
    show ∃ arr T fz, _ ∧ freshS G.S w w' b ≤ _
    by_cases hlt : b < w.heap.size
    · rw [show freshS G.S w w' b = G.S b from if_pos hlt] at hb ⊢
      obtain ⟨arr, T, fz, h1, h2⟩ := hw b hb
      exact ⟨arr, T, fz, (q5 b hlt).trans h1, h2⟩
    · rw [show freshS G.S w w' b = (sealAll w').S b from if_neg hlt] at hb ⊢
      exact within_all w' b hb
  · exact RepA.free (fun b => Nat.le_refl _) q6 ho
end Go.Sh

/- (ty.field).compare, by the kit's contract for strings.Compare. -/
namespace Go.Sh.T
open Go Go.Proofs Go.Shelf Go.Sort Go.RowKit Go.Lib
set_option linter.unusedVariables false
def laysCmp_ren : Shelf.Ren := { f := fun x => match x with | 106 => 58 | 213 => 77 | 265 => 88 | n => n, t := fun x => match x with | 9 => 9 | 3 => 3 | n => n, g := fun n => n }
theorem laysCmp : Lays.n106 Try.prog laysCmp_ren :=
  { mixed := by kernel_rfl, f106 := Eq.trans Try.func58 (congrArg some (by kernel_rfl)), f213 := Eq.trans Try.func77 (congrArg some (by kernel_rfl)), f265 := Eq.trans Try.func88 (congrArg some (by kernel_rfl)), t3 := Try.underlying3, a3 := Try.isAgg3, z3 := Try.sizeOf3, v3 := Try.zeroValue3, t9 := Try.underlying9, a9 := Try.isAgg9, z9 := Try.sizeOf9, v9 := Try.zeroValue9 }
theorem cmp58 (a b : ByteArray) (w : World) : Calls Try.prog 58 #[.string a, .string b] w fun e w' => e = .returned (.int .i64 (Lib.compareBytes a.data.toList b.data.toList)) ∧ w' = w := Any.strings_Compare laysCmp a b w
theorem e58 : ∀ args w, (callFunc 58 args).run Try.prog w = .ok (.enter 58 args) w := enters_of Try.func58 (by kernel_rfl) rfl
theorem alloc2 (w : World) (a b : Obj) : (w.alloc a).alloc b = grow w #[a, b] := by rw [alloc_eq_grow, alloc_eq_grow, grow_grow]; rfl
theorem cmp45 (a b : ByteArray) (x1 x2 x3 x4 x5 y1 y2 y3 y4 y5 : Value) (w : World) : Calls Try.prog 45 #[.agg #[.string a, x1, x2, x3, x4, x5], .agg #[.string b, y1, y2, y3, y4, y5]] w fun e w' => e = .returned (.int .i64 (Lib.compareBytes a.data.toList b.data.toList)) ∧ ∃ os, w' = grow w os := by
  have e58 := e58
  go_enter Try.func45, Try.ntmps45
  go_wp2_with (go_at_fn 58; refine (cmp58 _ _ _).mono ?_; rintro e w' ⟨rfl, rfl⟩)
  go_ret
  exact ⟨rfl, #[_, _], alloc2 _ _ _⟩
end Go.Sh.T

/- ty.Rec: the pieces of its code by their shadow. -/
namespace Go.Sh.T
set_option maxRecDepth 1000000
set_option linter.unusedVariables false
set_option linter.unusedSimpArgs false
open Go Go.Sh Go.Proofs
namespace RC
open W34 (pL pR)
noncomputable def body : Code := Try.f25.body.getD .skip
noncomputable def A1 := pL body
noncomputable def A2 := pL (pR body)
noncomputable def A3 := pL (pR (pR body))
noncomputable def A4 := pL (pR (pR (pR body)))
noncomputable def SR := pL (pR (pR (pR (pR body))))
noncomputable def rest := pR (pR (pR (pR (pR body))))
def inLoop : Code → Code
  | .block _ (.loop c) => c
  | _ => .skip
abbrev HH : FHint := { tr := [25, 45, 52], keep := [(0, [1, 4, 6, 18, 19, 20]), (2, [4, 9, 38, 39, 40])], base := [(44, 9), (46, 11), (50, 9), (51, 9), (53, 11), (57, 9), (59, 9)] }
abbrev zloc : Slot := .loc [.v (.lit (.int .i64 0)), .v (.lit (.int .i64 0)), .v (.lit (.string ByteArray.empty)), .own 1 [], .own 5 []]
noncomputable def cA : Code := inLoop (pR A4)
noncomputable def cB : Code := inLoop (pR (pL (pR rest)))
noncomputable def tl : Code := pR (pR rest)
noncomputable abbrev nt := Try.f25.ntmps
section
variable (F : Nat → List AV → Heap → R) (n : Nat) (h : Heap) (a0 a1 : AV)
noncomputable def kf (h0 : Heap) : Ex → St → R := fun e st' => match e with | .exit _ => none | _ => finish E HH Try.f25 h0 st'
noncomputable def LpA (m : Nat) (x6 : AV) (z12 : List (List AV)) (x13 x14 x15 : AV) : Option (List (Nat × Slot) × Heap) :=
  loopK (fun st K => evC E HH nt F n cA 0 st (keepB HH 0 K) kN) m { s := lkS [(1, .c (.v x6)), (4, zloc), (6, .c (.own 6 z12)), (18, .c (.v x13)), (19, .c (.v x14)), (20, .c (.v x15))], h := h } (fun e st' => match e with
    | .normal => kL [4, 6] .normal (st'.keep (lkN HH.keep 0))
    | .exit j => bif Nat.beq j 0 then kL [4, 6] .normal (st'.keep (lkN HH.keep 0)) else kL [4, 6] (.exit j) st'
    | .ret => kL [4, 6] .ret st')
noncomputable def LpB (h0 : Heap) (m : Nat) (x32 x33 x34 : AV) (z35 z36 : List (List AV)) (x37 x38 x39 : AV) : R :=
  loopK (fun st K => evC E HH nt F n cB 2 st (keepB HH 2 K) (fun _ _ => none)) m { s := lkS [(4, zloc), (9, .loc [.v x32, .v x33, .v x34, .own 1 z35, .own 5 z36]), (38, .c (.v x37)), (39, .c (.v x38)), (40, .c (.v x39))], h := h } (fun e st' => match e with
    | .normal => evC E HH nt F n tl 0 (st'.keep (lkN HH.keep 2)) (kf h0) (fun _ _ => none)
    | .exit j => bif Nat.beq j 2 then evC E HH nt F n tl 0 (st'.keep (lkN HH.keep 2)) (kf h0) (fun _ _ => none) else kf h0 (.exit j) st'
    | .ret => kf h0 .ret st')
theorem kA1 : evC E HH nt F n A1 0 { s := lkS (argSlots 0 [a0, a1]), h := h } (kL [0, 1, 4]) kN = some ([(0, .c (.v a0)), (1, .c (.v a1)), (4, zloc)], h) := by kernel_rfl
theorem kA2 : evC E HH nt F n A2 0 { s := lkS [(0, .c (.v a0)), (1, .c (.v a1)), (4, zloc)], h := h } (kL [0, 1, 4]) kN =
    (lenA E 22 a0).bind fun n1 => (lenA E 23 a1).bind fun n2 => (binAV E .neq 3 (.lit (.int .i64 n1)) (.lit (.int .i64 n2))).bind fun r3 => (boolOf r3).bind fun b4 => cond b4 none (some ([(0, .c (.v a0)), (1, .c (.v a1)), (4, zloc)], h)) := by kernel_rfl
theorem kA3 : evC E HH nt F n A3 0 { s := lkS [(0, .c (.v a0)), (1, .c (.v a1)), (4, zloc)], h := h } (kL [0, 1, 4, 6]) kN = some ([(0, .c (.v a0)), (1, .c (.v a1)), (4, zloc), (6, .c (.own 6 []))], h) := by kernel_rfl
theorem kA4 : evC E HH nt F n A4 0 { s := lkS [(0, .c (.v a0)), (1, .c (.v a1)), (4, zloc), (6, .c (.own 6 []))], h := h } (kL [4, 6]) kN = (lenA E 22 a0).bind fun n5 => LpA F n h n a1 [] a0 (.lit (.int .i64 n5)) (.lit (.int .i64 0)) := by kernel_rfl
theorem LpA_succ (m : Nat) (x6 : AV) (z12 : List (List AV)) (x13 x14 x15 : AV) : LpA F n h (m + 1) x6 z12 x13 x14 x15 =
    (binAV E .lss 3 x15 x14).bind fun r16 => (boolOf r16).bind fun b17 => cond b17 ((indexA 1 x13 x15).bind fun e18 => (partA false 1 0 e18).bind fun v19 => (indexA 5 x6 x15).bind fun e20 => (partA true 5 0 e20).bind fun v21 => cond (AV.one v19) ((aggOf v21).bind fun l22 => cond (Nat.beq l22.length 5) (cond (Nat.ble (z12.length + ([[v19, (l22.getD 0 .dead), (l22.getD 1 .dead), (l22.getD 2 .dead), (l22.getD 3 .dead), (l22.getD 4 .dead)]] : List (List AV)).length) maxApp) ((binAV E .add 3 x15 (.lit (.int .i64 1))).bind fun r23 => LpA F n h m x6 (z12 ++ [[v19, (l22.getD 0 .dead), (l22.getD 1 .dead), (l22.getD 2 .dead), (l22.getD 3 .dead), (l22.getD 4 .dead)]]) x13 x14 r23) none) none) none)
      (some ([(4, zloc), (6, .c (.own 6 z12))], h)) := by kernel_rfl
theorem kR (h0 : Heap) (z : List (List AV)) : evC E HH nt F n rest 0 { s := lkS [(4, zloc), (6, .c (.v (.sl 6 z)))], h := h } (kf h0) (fun _ _ => none) = (lenA E 50 (.sl 6 z)).bind fun n26 => LpB F n h h0 n (.lit (.int .i64 8)) (.lit (.int .i64 0)) (.lit (.string ByteArray.empty)) [] [] (.sl 6 z) (.lit (.int .i64 n26)) (.lit (.int .i64 0)) := by kernel_rfl
theorem LpB_succ (h0 : Heap) (m : Nat) (x32 x33 x34 : AV) (z35 z36 : List (List AV)) (x37 x38 x39 : AV) : LpB F n h h0 (m + 1) x32 x33 x34 z35 z36 x37 x38 x39 =
    (binAV E .lss 3 x39 x38).bind fun r40 => (boolOf r40).bind fun b41 => cond b41 ((indexA 6 x37 x39).bind fun e42 => (partA true 6 0 e42).bind fun v43 => (aggOf v43).bind fun l44 => cond (Nat.beq l44.length 6) (cond (AV.one (l44.getD 0 .dead)) (cond (Nat.ble (z35.length + ([[(l44.getD 0 .dead)]] : List (List AV)).length) maxApp) (cond (Nat.ble (z36.length + ([[(l44.getD 1 .dead), (l44.getD 2 .dead), (l44.getD 3 .dead), (l44.getD 4 .dead), (l44.getD 5 .dead)]] : List (List AV)).length) maxApp) ((binAV E .add 3 x39 (.lit (.int .i64 1))).bind fun r45 => LpB F n h h0 m x32 x33 x34 (z35 ++ [[(l44.getD 0 .dead)]]) (z36 ++ [[(l44.getD 1 .dead), (l44.getD 2 .dead), (l44.getD 3 .dead), (l44.getD 4 .dead), (l44.getD 5 .dead)]]) x37 x38 r45) none) none) none) none)
      (onOut (F 35 [.sl 1 z35] h) (fun a46 h47 => (unAV .not a46).bind fun r48 => (boolOf r48).bind fun b49 => cond b49 (some (.ret (.tup [.agg [.lit (.int .i64 0), .lit (.int .i64 0), .lit (.string ByteArray.empty), .sl 1 [], .sl 5 []], .lit (.bool false)]), h47)) (some (.ret (.tup [.agg [x32, x33, x34, .sl 1 z35, .sl 5 z36], .lit (.bool true)]), h47))) (fun _ _ _ => none) (fun _ _ => none)) := by kernel_rfl
/-- Lengths that part: its end. -/
noncomputable def kRet (h0 : Heap) : Ex → St → R := fun e st' => match e with | .ret => finish E HH Try.f25 h0 st' | _ => none
theorem kA2r (h0 : Heap) : evC E HH nt F n A2 0 { s := lkS [(0, .c (.v a0)), (1, .c (.v a1)), (4, zloc)], h := h } (kRet h0) kN =
    (lenA E 22 a0).bind fun n1 => (lenA E 23 a1).bind fun n2 => (binAV E .neq 3 (.lit (.int .i64 n1)) (.lit (.int .i64 n2))).bind fun r3 => (boolOf r3).bind fun b4 => cond b4 (some (.ret (.tup [.agg [.lit (.int .i64 0), .lit (.int .i64 0), .lit (.string ByteArray.empty), .sl 1 [], .sl 5 []], .lit (.bool false)]), h)) none := by kernel_rfl
end
end RC
end Go.Sh.T
