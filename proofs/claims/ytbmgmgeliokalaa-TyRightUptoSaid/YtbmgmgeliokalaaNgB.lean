/- NgB: part of the proof: a shadow of the machine that is proved sound, and what the functions of this seat compute. Conditions: none. -/
import Derived.Test.YtbmgmgeliokalaaNgA
set_option linter.unusedSimpArgs false
/- slices.symMergeCmpFunc at fields: one element behind. -/
namespace Go.Sh.Sym
open Go Go.Proofs Go.Shelf Go.RowKit Go.Lib Go.Sort
set_option linter.unusedVariables false
set_option linter.unusedSimpArgs false
variable {P : Program} {k g : Nat} {cb : Array Value} {w0 : World} {blk off cap : Nat} {d0 : Array Fld}

set_option maxHeartbeats 8000000 in
set_option maxRecDepth 1000000 in
theorem sym2 (L : Lay P k) (hO : SWO (ltOf cf)) (hC : CmpLays P g cb enc k cf blk off d0.size w0) (eg : ∀ args w, (callFunc g args).run P w = .ok (.enter g args) w) (R : Rw k w0 blk off d0) (d : Array Fld) (W : World) (hs : d0.size = d.size) (S : SW k w0 blk off d W) (a m b : Nat) (ham : a + 1 < m) (hmb1 : b ≤ m + 1) (hmb2 : m + 1 ≤ b) (hb : b ≤ d.size) (hsz : d.size < 1152921504606846976) (hsr : SortedIn (ltOf cf) a m d) :
    Calls P 76 #[.slice (some ⟨blk, off, none⟩) d.size cap, .int .i64 a, .int .i64 m, .int .i64 b, .func (.func g) #[] cb] W fun e w' => e = .returned (.tuple #[]) ∧ ∃ d', SW k w0 blk off d' w' ∧ PermIn a b d d' ∧ SortedIn (ltOf cf) a b d' := by
  have mixed := L.mixed; have t0 := L.t0; have a0 := L.a0; have z0 := L.z0; have v0 := L.v0; have t3 := L.t3; have a3 := L.a3; have z3 := L.z3; have v3 := L.v3; have t4 := L.t4; have a4 := L.a4; have z4 := L.z4; have v4 := L.v4; have t50 := L.t50; have a50 := L.a50; have z50 := L.z50; have v50 := L.v50; have t54 := L.t54; have a54 := L.a54; have z54 := L.z54; have v54 := L.v54; have t62 := L.t62; have a62 := L.a62; have z62 := L.z62; have v62 := L.v62; have aE := L.aE; have zE := L.zE
  have HC : Aside _ := hC
  have SR : Hid _ := hsr
  have OO : Hid _ := hO
  have S0 : Aside (SW k w0 blk off d W) := S
  clear S hC hsr hO
  have hma : ¬ ((m : Int) - (a : Int) = 1) := by omega
  have hmaB : ((m : Int) - (a : Int) == 1) = false := by rw [beq_eq_false_iff_ne]; omega
  have hmb : (b : Int) - (m : Int) = 1 := by omega
  go_enter L.f76, Try.ntmps76
  go_wp2
  go_loopg [14, 15] (m - a) (fun kx s10 s11 wr => ∃ (i j : Nat), s10 = .int .i64 i ∧ s11 = .int .i64 j ∧ a ≤ i ∧ i ≤ j ∧ j ≤ m ∧ j - i ≤ kx ∧ Aside (SW k w0 blk off d wr) ∧ Hid ((i = a ∨ ltOf cf d[m]! d[i - 1]! = false) ∧ (j = m ∨ ltOf cf d[m]! d[j]! = true)))
  case atStart => exact ⟨a, m, rfl, rfl, Nat.le_refl _, by omega, Nat.le_refl _, Nat.le_refl _, S0, .inl rfl, .inl rfl⟩
  case round =>
    clear S0
    obtain ⟨i, j, rfl, rfl, hmi, hij, hjb, hkx, S1, HE⟩ := hrel
    by_cases hlt : i < j
    · have hltz : (i : Int) < (j : Int) := by omega
      obtain ⟨h, hh⟩ : ∃ h : Nat, h = (i + j) / 2 := ⟨_, rfl⟩
      have hh1 : i ≤ h := by omega
      have hh2 : h < j := by omega
      have hf : ((i : Int) + (j : Int)) / 2 = (h : Int) := by omega
      have hw1 : IntKind.u64.wrap ((i : Int) + (j : Int)) = (i : Int) + (j : Int) := wrapU _ (by omega) (by omega)
      have hw2 : IntKind.i64.wrap ((i : Int) + (j : Int)) = (i : Int) + (j : Int) := by rw [IntKind.wrap_i64]; omega
      have hw3 : IntKind.i64.wrap (h : Int) = (h : Int) := by rw [IntKind.wrap_i64]; omega
      have hw4 : IntKind.u64.wrap (h : Int) = (h : Int) := wrapU _ (by omega) (by omega)
      clear hh
      cases hlv : ltOf cf d[m]! d[h]! with
      | false =>
        have ea44 : ((m : Int)).toNat = m := by omega
        have pa44 : (0 : Int) ≤ (m : Int) := by omega
        have ba44 : (m : Int) < (d.size : Int) := by omega
        have ra44 : IntKind.i64.wrap ((m : Int)) = (m : Int) := by rw [IntKind.wrap_i64]; omega
        have ec44 : ((h : Int)).toNat = h := by omega
        have pc44 : (0 : Int) ≤ (h : Int) := by omega
        have bc44 : (h : Int) < (d.size : Int) := by omega
        have rc44 : IntKind.i64.wrap ((h : Int)) = (h : Int) := by rw [IntKind.wrap_i64]; omega
        obtain ⟨x44, hx44⟩ : ∃ x, x = d[m]! := ⟨_, rfl⟩
        obtain ⟨y44, hy44⟩ : ∃ x, x = d[h]! := ⟨_, rfl⟩
        have l44a := S1.out.ld R (by omega) P (m) (by omega)
        have l44b := S1.out.ld R (by omega) P (h) (by omega)
        rw [← hx44] at l44a
        rw [← hy44] at l44b
        have hc44 := S1.out.cmp HC.out (by omega) x44 y44
        have hv44 : ¬ cf x44 y44 < 0 := by rw [hx44, hy44]; exact of_decide_eq_false hlv
        have hd44 : decide (cf x44 y44 < 0) = false := decide_eq_false hv44
        clear hx44 hy44
        go_wp2_with fail
        go_quiet_grown (first | (go_at_fn g; refine Calls.grown_of (hc44 _ _)))
        have S2 : Aside (SW k w0 blk off d (grow (wr.drewN nq) osq)) := S1.out.grown nq osq
        clear l44a l44b hc44 S1
        generalize grow (wr.drewN nq) osq = w2 at S2 ⊢
        clear nq osq
        go_wp2
        go_roundg (j - (h + 1))
        case measure => omega
        case rel => exact ⟨h + 1, j, by go_num, rfl, by omega, by omega, hjb, Nat.le_refl _, S2, .inr (by rw [Nat.add_sub_cancel]; exact hlv), HE.out.2⟩
      | true =>
        have ea45 : ((m : Int)).toNat = m := by omega
        have pa45 : (0 : Int) ≤ (m : Int) := by omega
        have ba45 : (m : Int) < (d.size : Int) := by omega
        have ra45 : IntKind.i64.wrap ((m : Int)) = (m : Int) := by rw [IntKind.wrap_i64]; omega
        have ec45 : ((h : Int)).toNat = h := by omega
        have pc45 : (0 : Int) ≤ (h : Int) := by omega
        have bc45 : (h : Int) < (d.size : Int) := by omega
        have rc45 : IntKind.i64.wrap ((h : Int)) = (h : Int) := by rw [IntKind.wrap_i64]; omega
        obtain ⟨x45, hx45⟩ : ∃ x, x = d[m]! := ⟨_, rfl⟩
        obtain ⟨y45, hy45⟩ : ∃ x, x = d[h]! := ⟨_, rfl⟩
        have l45a := S1.out.ld R (by omega) P (m) (by omega)
        have l45b := S1.out.ld R (by omega) P (h) (by omega)
        rw [← hx45] at l45a
        rw [← hy45] at l45b
        have hc45 := S1.out.cmp HC.out (by omega) x45 y45
        have hv45 : cf x45 y45 < 0 := by rw [hx45, hy45]; exact of_decide_eq_true hlv
        have hd45 : decide (cf x45 y45 < 0) = true := decide_eq_true hv45
        clear hx45 hy45
        go_wp2_with fail
        go_quiet_grown (first | (go_at_fn g; refine Calls.grown_of (hc45 _ _)))
        have S2 : Aside (SW k w0 blk off d (grow (wr.drewN nq) osq)) := S1.out.grown nq osq
        clear l45a l45b hc45 S1
        generalize grow (wr.drewN nq) osq = w2 at S2 ⊢
        clear nq osq
        go_wp2
        go_roundg (h - i)
        case measure => omega
        case rel => exact ⟨i, h, rfl, rfl, by omega, by omega, by omega, Nat.le_refl _, S2, HE.out.1, .inr hlv⟩
    · have hltz : ¬ (i : Int) < (j : Int) := by omega
      obtain rfl : i = j := by omega
      go_wp2
      go_loopg [17] (m - i) (fun kx s13 wr2 => ∃ (q : Nat) (dk : Array Fld), s13 = .int .i64 q ∧ i ≤ q ∧ q ≤ m ∧ q - i ≤ kx ∧ dk.size = d.size ∧ Aside (SW k w0 blk off dk wr2) ∧ Hid (Rot q m (m + 1) d dk ∧ PermIn a b d dk))
      case atStart => exact ⟨m, d, rfl, hjb, Nat.le_refl _, Nat.le_refl _, rfl, S1, Rot.left d (by omega), permIn_refl _ _ _⟩
      case round =>
        clear S1
        obtain ⟨q1, dk, rfl, haq, hqi, hkx2, hds, S1, HF⟩ := hrel
        by_cases hq : i < q1
        · obtain ⟨q, rfl⟩ : ∃ q, q1 = q + 1 := ⟨q1 - 1, by omega⟩
          have hqz : (i : Int) < (q : Int) + 1 := by omega
          have hqw : IntKind.i64.wrap (q : Int) = (q : Int) := by rw [IntKind.wrap_i64]; omega
          have ea46 : ((q : Int) + 1).toNat = q + 1 := by omega
          have pa46 : (0 : Int) ≤ (q : Int) + 1 := by omega
          have ba46 : (q : Int) + 1 < (d.size : Int) := by omega
          have ra46 : IntKind.i64.wrap ((q : Int) + 1) = (q : Int) + 1 := by rw [IntKind.wrap_i64]; omega
          have ec46 : ((q : Int)).toNat = q := by omega
          have pc46 : (0 : Int) ≤ (q : Int) := by omega
          have bc46 : (q : Int) < (d.size : Int) := by omega
          have rc46 : IntKind.i64.wrap ((q : Int)) = (q : Int) := by rw [IntKind.wrap_i64]; omega
          have S2 : Aside (SW k w0 blk off (swp dk (q + 1) (q)) ((wr.drew.setCells blk (off + (q + 1) * k) (enc dk[q]!)).setCells blk (off + (q) * k) (enc dk[q + 1]!))) := S1.out.swapped R (q + 1) (q) (by omega) (by omega)
          have l46a := S1.out.ld1 R (by omega) P (q + 1) (by omega)
          have l46b := S1.out.ld1 R (by omega) P (q) (by omega)
          have s46a := S1.out.st1 R (by omega) P (q + 1) (by omega) dk[q]!
          have s46b := S1.out.st2 R (by omega) P (q + 1) (q) (by omega) (by omega) dk[q]! dk[q + 1]!
          have n46a : (enc dk[q + 1]!).length = k := R.hk _
          have n46b : (enc dk[q]!).length = k := R.hk _
          generalize enc dk[q + 1]! = cI46 at S2 l46a s46b n46a
          generalize enc dk[q]! = cJ46 at S2 l46b s46a s46b n46b
          clear S1
          go_wp2_with fail
          go_big_region_o
          clear l46a l46b s46a s46b
          generalize (wr.drew.setCells blk (off + (q + 1) * k) cJ46).setCells blk (off + (q) * k) cI46 = w2 at S2 ⊢
          go_wp2
          go_roundg (q - i)
          case measure => omega
          case rel =>
            exact ⟨q, swp dk (q + 1) q, by first | rfl | go_num, by omega, by omega, Nat.le_refl _, by rw [swp_size]; exact hds, S2, HF.out.1.down hqi (by omega), permIn_swp HF.out.2 (by omega) (by omega) (by omega) (by omega) hb⟩
        · have hqz : ¬ ((i : Int) < (q1 : Int)) := by omega
          have hqi' : q1 = i := by omega
          go_wp2
          (try simp only [Exit.inBlock, Exit.then]); refine bodyPost_ret (results_none rfl _ _ _) rfl ?_
          refine ⟨rfl, dk, S1.out, HF.out.2, ?_⟩
          have h1 := HF.out.1
          rw [hqi'] at h1
          have h2 := ins_last OO.out SR.out hmi hjb HE.out.1 HE.out.2 h1
          rwa [show m + 1 = b by omega] at h2
end Go.Sh.Sym
