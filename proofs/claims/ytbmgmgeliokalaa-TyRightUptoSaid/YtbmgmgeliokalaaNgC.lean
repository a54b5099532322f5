/- NgC: part of the proof: a shadow of the machine that is proved sound, and what the functions of this seat compute. Conditions: none. -/
import Derived.Test.YtbmgmgeliokalaaNgB
import Derived.Deep.DeepCutAuto
set_option linter.unusedSimpArgs false
/- slices.symMergeCmpFunc at fields: whole. -/
namespace Go.Sh.Sym
open Go Go.Proofs Go.Shelf Go.RowKit Go.Lib Go.Sort
set_option linter.unusedVariables false
set_option linter.unusedSimpArgs false
variable {P : Program} {k g : Nat} {cb : Array Value} {w0 : World} {blk off cap : Nat} {d0 : Array Fld}

set_option maxHeartbeats 8000000 in
set_option maxRecDepth 1000000 in
theorem symStep (L : Lay P k) (hO : SWO (ltOf cf)) (hC : CmpLays P g cb enc k cf blk off d0.size w0) (eg : ∀ args w, (callFunc g args).run P w = .ok (.enter g args) w) (R : Rw k w0 blk off d0) (d : Array Fld) (W : World) (hs : d0.size = d.size) (S : SW k w0 blk off d W) (a m b : Nat) (ham : a + 1 < m) (hmb : m + 1 < b) (hb : b ≤ d.size) (hsz : d.size < 1152921504606846976) (hsl : SortedIn (ltOf cf) a m d) (hsr : SortedIn (ltOf cf) m b d)
    (ih : ∀ (d : Array Fld) (W : World) (a' m' b' : Nat), d0.size = d.size → SW k w0 blk off d W → a' < m' → m' < b' → b' ≤ d.size → b' - a' < b - a → SortedIn (ltOf cf) a' m' d → SortedIn (ltOf cf) m' b' d → Calls P 76 #[.slice (some ⟨blk, off, none⟩) d.size cap, .int .i64 a', .int .i64 m', .int .i64 b', .func (.func g) #[] cb] W fun e w' => e = .returned (.tuple #[]) ∧ ∃ d', SW k w0 blk off d' w' ∧ PermIn a' b' d d' ∧ SortedIn (ltOf cf) a' b' d') :
    Calls P 76 #[.slice (some ⟨blk, off, none⟩) d.size cap, .int .i64 a, .int .i64 m, .int .i64 b, .func (.func g) #[] cb] W fun e w' => e = .returned (.tuple #[]) ∧ ∃ d', SW k w0 blk off d' w' ∧ PermIn a b d d' ∧ SortedIn (ltOf cf) a b d' := by
  have mixed := L.mixed; have t0 := L.t0; have a0 := L.a0; have z0 := L.z0; have v0 := L.v0; have t3 := L.t3; have a3 := L.a3; have z3 := L.z3; have v3 := L.v3; have t4 := L.t4; have a4 := L.a4; have z4 := L.z4; have v4 := L.v4; have t50 := L.t50; have a50 := L.a50; have z50 := L.z50; have v50 := L.v50; have t54 := L.t54; have a54 := L.a54; have z54 := L.z54; have v54 := L.v54; have t62 := L.t62; have a62 := L.a62; have z62 := L.z62; have v62 := L.v62; have aE := L.aE; have zE := L.zE
  have e87 : ∀ args w, (callFunc 87 args).run P w = .ok (.enter 87 args) w := enters_of L.f87 (by kernel_rfl) rfl
  have e76 : ∀ args w, (callFunc 76 args).run P w = .ok (.enter 76 args) w := enters_of L.f76 (by kernel_rfl) rfl
  have HC : Aside _ := hC
  have SL : Hid (SortedIn (ltOf cf) a m d) := hsl
  have SR : Hid (SortedIn (ltOf cf) m b d) := hsr
  have OO : Hid _ := hO
  have IH := hid ih
  have S0 : Aside (SW k w0 blk off d W) := S
  clear S hC hsr hsl hO ih
  have hma : ¬ ((m : Int) - (a : Int) = 1) := by omega
  have hmaB : ((m : Int) - (a : Int) == 1) = false := by rw [beq_eq_false_iff_ne]; omega
  have hmb1 : ¬ ((b : Int) - (m : Int) = 1) := by omega
  have hmbB : ((b : Int) - (m : Int) == 1) = false := by rw [beq_eq_false_iff_ne]; omega
  obtain ⟨mid, hh⟩ : ∃ h : Nat, h = (a + b) / 2 := ⟨_, rfl⟩
  have hm1 : a + 1 < mid := by omega
  have hm2 : mid + 1 < b := by omega
  have hm3 : a + b ≤ 2 * mid + 1 := by omega
  have hm4 : 2 * mid ≤ a + b := by omega
  have hf : ((a : Int) + (b : Int)) / 2 = (mid : Int) := by omega
  have hw1 : IntKind.u64.wrap ((a : Int) + (b : Int)) = (a : Int) + (b : Int) := wrapU _ (by omega) (by omega)
  have hw2 : IntKind.i64.wrap ((a : Int) + (b : Int)) = (a : Int) + (b : Int) := by rw [IntKind.wrap_i64]; omega
  have hw3 : IntKind.i64.wrap (mid : Int) = (mid : Int) := by rw [IntKind.wrap_i64]; omega
  have hw4 : IntKind.u64.wrap (mid : Int) = (mid : Int) := wrapU _ (by omega) (by omega)
  have hw5 : IntKind.i64.wrap ((mid : Int) + (m : Int)) = (mid : Int) + (m : Int) := by rw [IntKind.wrap_i64]; omega
  have hw6 : IntKind.i64.wrap ((mid : Int) + (m : Int) - (b : Int)) = (mid : Int) + (m : Int) - (b : Int) := by rw [IntKind.wrap_i64]; omega
  have hw7 : IntKind.i64.wrap ((mid : Int) + (m : Int) - 1) = (mid : Int) + (m : Int) - 1 := by rw [IntKind.wrap_i64]; omega
  clear hh
  go_enter L.f76, Try.ntmps76
  go_upto_if 140 with fail
  go_cut [20, 21] (fun s20 s21 wx => ∃ z0 r0 : Nat, s20 = .int .i64 z0 ∧ s21 = .int .i64 r0 ∧ Aside (SW k w0 blk off d wx) ∧ a ≤ z0 ∧ z0 ≤ r0 ∧ r0 ≤ mid ∧ r0 ≤ m ∧ (r0 = mid ∨ r0 = m) ∧ mid + m - z0 ≤ b ∧ (z0 = a ∨ mid + m - z0 = b))
  case first =>
    by_cases hgm : mid < m
    · have hgz : (mid : Int) < (m : Int) := by omega
      go_wp2_with fail
      go_meet
      exact ⟨mid + m - b, mid, by congr 1; omega, rfl, S0, by omega, by omega, by omega, by omega, .inl rfl, by omega, .inr (by omega)⟩
    · have hgz : ¬ ((mid : Int) < (m : Int)) := by omega
      go_wp2_with fail
      go_meet
      exact ⟨a, m, rfl, rfl, S0, by omega, by omega, by omega, by omega, .inr rfl, by omega, .inl rfl⟩
  case rest => as_aux_lemma =>
    clear S0
    obtain ⟨z0, r0, rfl, rfl, S0, h1, h2, h3, h4, h5, h6, h7⟩ := hcut
    have H5 := hid h5
    have H7 := hid h7
    clear h5 h7
    go_wp2_with fail
    go_loopg [20, 21] (r0 - z0) (fun kx s10 s11 wr => ∃ (i j : Nat), s10 = .int .i64 i ∧ s11 = .int .i64 j ∧ z0 ≤ i ∧ i ≤ j ∧ j ≤ r0 ∧ j - i ≤ kx ∧ Aside (SW k w0 blk off d wr) ∧ Hid ((i = z0 ∨ ltOf cf d[mid + m - 1 - (i - 1)]! d[i - 1]! = false) ∧ (j = r0 ∨ ltOf cf d[mid + m - 1 - j]! d[j]! = true)))
    case atStart => exact ⟨z0, r0, rfl, rfl, Nat.le_refl _, by omega, Nat.le_refl _, Nat.le_refl _, S0, .inl rfl, .inl rfl⟩
    case round =>
      clear S0
      obtain ⟨i, j, rfl, rfl, hmi, hij, hjb, hkx, S1, HE⟩ := hrel
      by_cases hlt : i < j
      · have hltz : (i : Int) < (j : Int) := by omega
        obtain ⟨h, hh⟩ : ∃ h : Nat, h = (i + j) / 2 := ⟨_, rfl⟩
        have hh1 : i ≤ h := by omega
        have hh2 : h < j := by omega
        have gf : ((i : Int) + (j : Int)) / 2 = (h : Int) := by omega
        have gw1 : IntKind.u64.wrap ((i : Int) + (j : Int)) = (i : Int) + (j : Int) := wrapU _ (by omega) (by omega)
        have gw2 : IntKind.i64.wrap ((i : Int) + (j : Int)) = (i : Int) + (j : Int) := by rw [IntKind.wrap_i64]; omega
        have gw3 : IntKind.i64.wrap (h : Int) = (h : Int) := by rw [IntKind.wrap_i64]; omega
        have gw4 : IntKind.u64.wrap (h : Int) = (h : Int) := wrapU _ (by omega) (by omega)
        clear hh
        obtain ⟨pc, hx⟩ : ∃ x : Nat, x = mid + m - 1 - h := ⟨_, rfl⟩
        have hxz : (mid : Int) + (m : Int) - 1 - (h : Int) = (pc : Int) := by omega
        have hx1 : pc < d.size := by omega
        have HX := hid hx
        clear hx
        cases hlv : ltOf cf d[pc]! d[h]! with
        | false =>
          have ea44 : ((pc : Int)).toNat = pc := by omega
          have pa44 : (0 : Int) ≤ (pc : Int) := by omega
          have ba44 : (pc : Int) < (d.size : Int) := by omega
          have ra44 : IntKind.i64.wrap ((pc : Int)) = (pc : Int) := by rw [IntKind.wrap_i64]; omega
          have ec44 : ((h : Int)).toNat = h := by omega
          have pc44 : (0 : Int) ≤ (h : Int) := by omega
          have bc44 : (h : Int) < (d.size : Int) := by omega
          have rc44 : IntKind.i64.wrap ((h : Int)) = (h : Int) := by rw [IntKind.wrap_i64]; omega
          obtain ⟨x44, hx44⟩ : ∃ x, x = d[pc]! := ⟨_, rfl⟩
          obtain ⟨y44, hy44⟩ : ∃ x, x = d[h]! := ⟨_, rfl⟩
          have l44a := S1.out.ld R (by omega) P (pc) (by omega)
          have l44b := S1.out.ld R (by omega) P (h) (by omega)
          rw [← hx44] at l44a
          rw [← hy44] at l44b
          have hc44 := S1.out.cmp HC.out (by omega) x44 y44
          have hv44 : ¬ cf x44 y44 < 0 := by rw [hx44, hy44]; exact of_decide_eq_false hlv
          have hd44 : decide (cf x44 y44 < 0) = false := decide_eq_false hv44
          clear hx44 hy44
          go_wp2_with fail
          go_quiet_grown (first | (go_at_fn g; refine Calls.grown_of (hc44 _ _)))
          have S2 : Aside (SW k w0 blk off d (grow (wr.drewN nq) osq)) := S1.out.grown nq osq
          clear l44a l44b hc44 S1
          generalize grow (wr.drewN nq) osq = w2 at S2 ⊢
          clear nq osq
          go_wp2
          go_roundg (j - (h + 1))
          case measure => omega
          case rel => exact ⟨h + 1, j, by go_num, rfl, by omega, by omega, hjb, Nat.le_refl _, S2, .inr (by rw [Nat.add_sub_cancel, ← HX.out]; exact hlv), HE.out.2⟩
        | true =>
          have ea45 : ((pc : Int)).toNat = pc := by omega
          have pa45 : (0 : Int) ≤ (pc : Int) := by omega
          have ba45 : (pc : Int) < (d.size : Int) := by omega
          have ra45 : IntKind.i64.wrap ((pc : Int)) = (pc : Int) := by rw [IntKind.wrap_i64]; omega
          have ec45 : ((h : Int)).toNat = h := by omega
          have pc45 : (0 : Int) ≤ (h : Int) := by omega
          have bc45 : (h : Int) < (d.size : Int) := by omega
          have rc45 : IntKind.i64.wrap ((h : Int)) = (h : Int) := by rw [IntKind.wrap_i64]; omega
          obtain ⟨x45, hx45⟩ : ∃ x, x = d[pc]! := ⟨_, rfl⟩
          obtain ⟨y45, hy45⟩ : ∃ x, x = d[h]! := ⟨_, rfl⟩
          have l45a := S1.out.ld R (by omega) P (pc) (by omega)
          have l45b := S1.out.ld R (by omega) P (h) (by omega)
          rw [← hx45] at l45a
          rw [← hy45] at l45b
          have hc45 := S1.out.cmp HC.out (by omega) x45 y45
          have hv45 : cf x45 y45 < 0 := by rw [hx45, hy45]; exact of_decide_eq_true hlv
          have hd45 : decide (cf x45 y45 < 0) = true := decide_eq_true hv45
          clear hx45 hy45
          go_wp2_with fail
          go_quiet_grown (first | (go_at_fn g; refine Calls.grown_of (hc45 _ _)))
          have S2 : Aside (SW k w0 blk off d (grow (wr.drewN nq) osq)) := S1.out.grown nq osq
          clear l45a l45b hc45 S1
          generalize grow (wr.drewN nq) osq = w2 at S2 ⊢
          clear nq osq
          go_wp2
          go_roundg (h - i)
          case measure => omega
          case rel => exact ⟨i, h, rfl, rfl, by omega, by omega, by omega, Nat.le_refl _, S2, HE.out.1, .inr (by rw [← HX.out]; exact hlv)⟩
      · have hltz : ¬ (i : Int) < (j : Int) := by omega
        obtain rfl : i = j := by omega
        obtain ⟨e, he⟩ : ∃ e : Nat, e = mid + m - i := ⟨_, rfl⟩
        have he1 : m ≤ e := by omega
        have he2 : e ≤ b := by omega
        have he3 : (mid : Int) + (m : Int) - (i : Int) = (e : Int) := by omega
        have hw8 : IntKind.i64.wrap (e : Int) = (e : Int) := by rw [IntKind.wrap_i64]; omega
        have HEE := hid he
        clear he
        have C1 : Hid (i = a ∨ e = b ∨ ltOf cf d[e]! d[i - 1]! = false) := by
          rcases HE.out.1 with q | q
          · rcases H7.out with q2 | q2
            · left; omega
            · right; left; have := HEE.out; omega
          · by_cases hi0 : i = a
            · exact .inl hi0
            · right; right; rwa [show mid + m - 1 - (i - 1) = e by have := HEE.out; omega] at q
        have C2 : Hid (e = m ∨ i = m ∨ ltOf cf d[e - 1]! d[i]! = true) := by
          rcases HE.out.2 with q | q
          · rcases H5.out with q2 | q2
            · left; have := HEE.out; omega
            · right; left; omega
          · right; right; rwa [show mid + m - 1 - i = e - 1 by have := HEE.out; omega] at q
        clear HE
        go_upto_region 39 with fail
        obtain ⟨B1, hB1⟩ : ∃ q : Bool, q = decide (i < m ∧ m < e) := ⟨_, rfl⟩
        have HB1 := hid hB1
        clear hB1
        go_cut [185] (fun s wx => s = .bool B1 ∧ Aside (SW k w0 blk off d wx))
        case first =>
          by_cases c1 : i < m
          · have z1 : (i : Int) < (m : Int) := by omega
            have z1' : decide ((i : Int) < (m : Int)) = true := decide_eq_true z1
            by_cases c2 : m < e
            · have z2 : (m : Int) < (e : Int) := by omega
              have z2' : decide ((m : Int) < (e : Int)) = true := decide_eq_true z2
              go_wp2_with fail
              go_meet
              exact ⟨by rw [HB1.out, decide_eq_true (And.intro c1 c2)], S1⟩
            · have z2 : ¬ ((m : Int) < (e : Int)) := by omega
              have z2' : decide ((m : Int) < (e : Int)) = false := decide_eq_false z2
              go_wp2_with fail
              go_meet
              exact ⟨by rw [HB1.out, decide_eq_false (fun h => c2 h.2)], S1⟩
          · have z1 : ¬ ((i : Int) < (m : Int)) := by omega
            have z1' : decide ((i : Int) < (m : Int)) = false := decide_eq_false z1
            go_wp2_with fail
            go_meet
            exact ⟨by rw [HB1.out, decide_eq_false (fun h => c1 h.1)], S1⟩
        case rest => as_aux_lemma =>
          clear S1
          obtain ⟨rfl, S1⟩ := hcut
          go_upto_if 185 with fail
          go_cut [] (fun wx => ∃ d1, Aside (SW k w0 blk off d1 wx) ∧ Hid (Rot i m e d d1 ∧ PermIn a b d d1))
          case first =>
            cases B1 with
            | true =>
              obtain ⟨hr1, hr2⟩ := of_decide_eq_true HB1.out.symm
              have q := rotate (cap := cap) (g := g) (cb := cb) L R hs S1.out i m e hr1 hr2 (by omega) hsz
              have QQ := hid q
              clear q S1
              go_wp2_with (go_at_fn 87; refine QQ.out.mono ?_; rintro e' w1 ⟨rfl, d1, S', k1, k2⟩)
              go_meet
              exact ⟨d1, S', k1, permIn_le _ _ k2 (by omega) (by omega) (by omega)⟩
            | false =>
              have hn := of_decide_eq_false HB1.out.symm
              go_wp2_with fail
              go_meet
              refine ⟨d, S1, ?_, permIn_refl _ _ _⟩
              by_cases c : i < m
              · rw [show e = m by omega]; exact Rot.right d (by omega)
              · rw [show i = m by omega]; exact Rot.left d (by omega)
          case rest => as_aux_lemma =>
            clear S1
            obtain ⟨d1, S3, HR⟩ := hcut
            have hd1 : d1.size = d.size := HR.out.1.1
            have HF : Hid (SortedIn (ltOf cf) a i d1 ∧ SortedIn (ltOf cf) i mid d1 ∧ SortedIn (ltOf cf) mid e d1 ∧ SortedIn (ltOf cf) e b d1 ∧ Half (ltOf cf) a mid b d1) := rot_half OO.out SL.out SR.out (by omega) (by omega) he1 he2 (by have := HEE.out; omega) C1.out C2.out HR.out.1
            go_upto_region 41 with fail
            obtain ⟨B2, hB2⟩ : ∃ q : Bool, q = decide (a < i ∧ i < mid) := ⟨_, rfl⟩
            have HB2 := hid hB2
            clear hB2
            go_cut [199] (fun s wx => s = .bool B2 ∧ Aside (SW k w0 blk off d1 wx))
            case first =>
              by_cases c1 : a < i
              · have z1 : (a : Int) < (i : Int) := by omega
                have z1' : decide ((a : Int) < (i : Int)) = true := decide_eq_true z1
                by_cases c2 : i < mid
                · have z2 : (i : Int) < (mid : Int) := by omega
                  have z2' : decide ((i : Int) < (mid : Int)) = true := decide_eq_true z2
                  go_wp2_with fail
                  go_meet
                  exact ⟨by rw [HB2.out, decide_eq_true (And.intro c1 c2)], S3⟩
                · have z2 : ¬ ((i : Int) < (mid : Int)) := by omega
                  have z2' : decide ((i : Int) < (mid : Int)) = false := decide_eq_false z2
                  go_wp2_with fail
                  go_meet
                  exact ⟨by rw [HB2.out, decide_eq_false (fun h => c2 h.2)], S3⟩
              · have z1 : ¬ ((a : Int) < (i : Int)) := by omega
                have z1' : decide ((a : Int) < (i : Int)) = false := decide_eq_false z1
                go_wp2_with fail
                go_meet
                exact ⟨by rw [HB2.out, decide_eq_false (fun h => c1 h.1)], S3⟩
            case rest => as_aux_lemma =>
              clear S3
              obtain ⟨rfl, S3⟩ := hcut
              go_upto_if 199 with fail
              go_cut [] (fun wx => ∃ d2, Aside (SW k w0 blk off d2 wx) ∧ Hid (PermIn a mid d1 d2 ∧ SortedIn (ltOf cf) a mid d2 ∧ SortedIn (ltOf cf) mid e d2 ∧ SortedIn (ltOf cf) e b d2 ∧ Half (ltOf cf) a mid b d2))
              case first =>
                cases B2 with
                | true =>
                  obtain ⟨hr1, hr2⟩ := of_decide_eq_true HB2.out.symm
                  have q := IH.out d1 wc a i mid (hs.trans hd1.symm) S3.out hr1 hr2 (by omega) (by omega) HF.out.1 HF.out.2.1
                  rw [hd1] at q
                  have QQ := hid q
                  clear q S3
                  go_wp2_with (go_at_fn 76; refine QQ.out.mono ?_; rintro e' w1 ⟨rfl, d2, S', k1, k2⟩)
                  go_meet
                  exact ⟨d2, S', k1, k2, sorted_keep HF.out.2.2.1 k1 (.inr (Nat.le_refl _)), sorted_keep HF.out.2.2.2.1 k1 (.inr (by omega)), HF.out.2.2.2.2.perm (by omega) (by omega) (by omega) (.inl k1)⟩
                | false =>
                  have hn := of_decide_eq_false HB2.out.symm
                  go_wp2_with fail
                  go_meet
                  refine ⟨d1, S3, permIn_refl _ _ _, ?_, HF.out.2.2.1, HF.out.2.2.2.1, HF.out.2.2.2.2⟩
                  by_cases c : a < i
                  · rw [show mid = i by omega]; exact HF.out.1
                  · rw [show a = i by omega]; exact HF.out.2.1
              case rest => as_aux_lemma =>
                clear S3
                obtain ⟨d2, S4, HP⟩ := hcut
                go_upto_region 43 with fail
                obtain ⟨B3, hB3⟩ : ∃ q : Bool, q = decide (mid < e ∧ e < b) := ⟨_, rfl⟩
                have HB3 := hid hB3
                clear hB3
                go_cut [213] (fun s wx => s = .bool B3 ∧ Aside (SW k w0 blk off d2 wx))
                case first =>
                  by_cases c1 : mid < e
                  · have z1 : (mid : Int) < (e : Int) := by omega
                    have z1' : decide ((mid : Int) < (e : Int)) = true := decide_eq_true z1
                    by_cases c2 : e < b
                    · have z2 : (e : Int) < (b : Int) := by omega
                      have z2' : decide ((e : Int) < (b : Int)) = true := decide_eq_true z2
                      go_wp2_with fail
                      go_meet
                      exact ⟨by rw [HB3.out, decide_eq_true (And.intro c1 c2)], S4⟩
                    · have z2 : ¬ ((e : Int) < (b : Int)) := by omega
                      have z2' : decide ((e : Int) < (b : Int)) = false := decide_eq_false z2
                      go_wp2_with fail
                      go_meet
                      exact ⟨by rw [HB3.out, decide_eq_false (fun h => c2 h.2)], S4⟩
                  · have z1 : ¬ ((mid : Int) < (e : Int)) := by omega
                    have z1' : decide ((mid : Int) < (e : Int)) = false := decide_eq_false z1
                    go_wp2_with fail
                    go_meet
                    exact ⟨by rw [HB3.out, decide_eq_false (fun h => c1 h.1)], S4⟩
                case rest => as_aux_lemma =>
                  clear S4
                  obtain ⟨rfl, S4⟩ := hcut
                  go_upto_if 213 with fail
                  cases B3 with
                  | true =>
                    obtain ⟨hr1, hr2⟩ := of_decide_eq_true HB3.out.symm
                    have hd2 : d2.size = d.size := by rw [HP.out.1.1, hd1]
                    have q := IH.out d2 wc mid e b (hs.trans hd2.symm) S4.out hr1 hr2 (by omega) (by omega) HP.out.2.2.1 HP.out.2.2.2.1
                    rw [hd2] at q
                    have QQ := hid q
                    clear q S4
                    go_wp2_with (go_at_fn 76; refine QQ.out.mono ?_; rintro e' w1 ⟨rfl, d3, S', k1, k2⟩)
                    (try simp only [Exit.inBlock, Exit.then]); refine bodyPost_end (results_none rfl _ _ _) rfl ?_
                    refine ⟨rfl, d3, S', permIn_trans _ _ _ _ _ (permIn_trans _ _ _ _ _ HR.out.2 (permIn_le _ _ HP.out.1 (by omega) (by omega) (by omega))) (permIn_le _ _ k1 (by omega) (by omega) (by omega)), ?_⟩
                    exact (HP.out.2.2.2.2.perm (by omega) (by omega) (by omega) (.inr k1)).sorted (sorted_keep HP.out.2.1 k1 (.inl (Nat.le_refl _))) k2
                  | false =>
                    have hn := of_decide_eq_false HB3.out.symm
                    go_wp2_with fail
                    (try simp only [Exit.inBlock, Exit.then]); refine bodyPost_end (results_none rfl _ _ _) rfl ?_
                    refine ⟨rfl, d2, S4.out, permIn_trans _ _ _ _ _ HR.out.2 (permIn_le _ _ HP.out.1 (by omega) (by omega) (by omega)), ?_⟩
                    refine HP.out.2.2.2.2.sorted HP.out.2.1 ?_
                    by_cases c : mid < e
                    · rw [show b = e by omega]; exact HP.out.2.2.1
                    · rw [show mid = e by have := HEE.out; omega]; exact HP.out.2.2.2.1
end Go.Sh.Sym
