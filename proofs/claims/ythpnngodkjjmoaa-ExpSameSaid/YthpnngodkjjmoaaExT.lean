/- ExT: part of the proof: a shadow of the machine that is proved sound, and what the functions of this seat compute. Conditions: none. -/
import Derived.Test.YthpnngodkjjmoaaExA
namespace Go.Sh.T
set_option linter.unusedVariables false
set_option linter.unusedSimpArgs false
open Go Go.Sh Go.Proofs
end Go.Sh.T

namespace Go.Sh.T
open Go Go.Sh Go.Proofs
set_option maxRecDepth 1000000
set_option linter.unusedVariables false
noncomputable def prims : List (Nat × ((Nat → List AV → Heap → R) → List AV → Heap → R)) := [(104, p104), (74, p74), (45, p45), (10, p10), (11, p11), (12, p12)]
noncomputable def E : Env := mkEnv Try.prog fs ts prims hints []
theorem okE : E.Ok := mkEnv_ok (gs := gs) allF allG allT (by kernel_rfl) (by kernel_rfl) rfl (by kernel_rfl) (by kernel_rfl)
section
variable (F : Nat → List AV → Heap → R) (n : Nat) (h0 : Heap)
-- 13 limbeck/limbeckref04.Nodes
noncomputable def Lp13_0 (m : Nat) (h : Heap) (x2 : AV) (x3 : AV) (x4 : AV) (x5 : AV) (x6 : AV) (x7 : AV) (x8 : AV) : R := loopAt E 13 Try.f13 F n h0 [.r, .r, .l, .r, .b] m { s := lkS [(1, .loc [.v x2, .v x3, .v x4, .v x5, .v x6]), (3, .c (.v x7)), (4, .c (.v x8))], h := h }
-- 36 limbeck/limbecklaw04.Much
noncomputable def Lp36_1 (m : Nat) (h : Heap) (x25 : AV) (x26 : AV) (x27 : AV) (x28 : AV) (x29 : AV) (x30 : AV) (x31 : AV) : R := loopAt E 36 Try.f36 F n h0 [.r, .r, .r, .l, .r, .b] m { s := lkS [(1, .loc [.v x25, .v x26, .v x27, .v x28, .v x29]), (3, .c (.v x30)), (5, .c (.v x31))], h := h }
noncomputable def Lp36_0 (m : Nat) (h : Heap) (x7 : AV) (x8 : AV) (x9 : AV) (x10 : AV) (x11 : AV) (x12 : AV) (x13 : AV) : R := loopAt E 36 Try.f36 F n h0 [.r, .r, .l, .r, .b] m { s := lkS [(1, .loc [.v x7, .v x8, .v x9, .v x10, .v x11]), (3, .c (.v x12)), (4, .c (.v x13))], h := h }
theorem Lp36_1_succ (m : Nat) (h : Heap) (x25 : AV) (x26 : AV) (x27 : AV) (x28 : AV) (x29 : AV) (x30 : AV) (x31 : AV) : Lp36_1 F n h0 (m + 1) h x25 x26 x27 x28 x29 x30 x31 = (lenA E 22 x29).bind fun n32 => (binAV E .lss 3 x31 (.lit (.int .i64 n32))).bind fun r33 => (boolOf r33).bind fun b34 => cond b34 ((binAV E .lss 3 x30 (.lit (.int .i64 3000))).bind fun r35 => (boolOf r35).bind fun b36 => cond b36 ((indexA 5 x29 x31).bind fun e37 => (partA true 5 0 e37).bind fun v38 => onOut (F 36 [v38] h) (fun a39 h40 => (binAV E .add 3 x30 a39).bind fun r41 => (binAV E .add 3 x31 (.lit (.int .i64 1))).bind fun r42 => Lp36_1 F n h0 m h40 x25 x26 x27 x28 x29 r41 r42) (fun _ _ _ => none) (fun _ _ => none)) (some (.ret x30, h))) (some (.ret x30, h)) := by kernel_rfl
theorem Lp36_0_succ (m : Nat) (h : Heap) (x7 : AV) (x8 : AV) (x9 : AV) (x10 : AV) (x11 : AV) (x12 : AV) (x13 : AV) : Lp36_0 F n h0 (m + 1) h x7 x8 x9 x10 x11 x12 x13 = (lenA E 23 x10).bind fun n14 => (binAV E .lss 3 x13 (.lit (.int .i64 n14))).bind fun r15 => (boolOf r15).bind fun b16 => cond b16 ((binAV E .lss 3 x13 (.lit (.int .i64 1000))).bind fun r17 => (boolOf r17).bind fun b18 => cond b18 ((indexA 1 x10 x13).bind fun e19 => (partA false 1 0 e19).bind fun v20 => (lenA E 9 v20).bind fun n21 => (binAV E .quo 3 (.lit (.int .i64 n21)) (.lit (.int .i64 8))).bind fun r22 => (binAV E .add 3 x12 r22).bind fun r23 => (binAV E .add 3 x13 (.lit (.int .i64 1))).bind fun r24 => Lp36_0 F n h0 m h x7 x8 x9 x10 x11 r23 r24) (Lp36_1 F n h0 n h x7 x8 x9 x10 x11 x12 (.lit (.int .i64 0)))) (Lp36_1 F n h0 n h x7 x8 x9 x10 x11 x12 (.lit (.int .i64 0))) := by kernel_rfl
theorem nf36 (a0_ : AV) : runF E 36 Try.f36 F n [a0_] h0 = (aggOf a0_).bind fun l1 => cond (Nat.beq l1.length 5) ((lenA E 9 (l1.getD 2 .dead)).bind fun n2 => (binAV E .quo 3 (.lit (.int .i64 n2)) (.lit (.int .i64 8))).bind fun r3 => (binAV E .add 3 (.lit (.int .i64 1)) r3).bind fun r4 => (lenA E 23 (l1.getD 3 .dead)).bind fun n5 => (binAV E .add 3 r4 (.lit (.int .i64 n5))).bind fun r6 => Lp36_0 F n h0 n h0 (l1.getD 0 .dead) (l1.getD 1 .dead) (l1.getD 2 .dead) (l1.getD 3 .dead) (l1.getD 4 .dead) r6 (.lit (.int .i64 0))) none := by kernel_rfl
-- 21 limbeck/limbeckref01.Same
noncomputable def Lp21_0 (m : Nat) (h : Heap) (x5 : AV) (x6 : AV) (x7 : AV) : R := loopAt E 21 Try.f21 F n h0 [.r, .r, .l, .r, .b] m { s := lkS [(0, .c (.v x5)), (1, .c (.v x6)), (5, .c (.v x7))], h := h }
theorem Lp21_0_succ (m : Nat) (h : Heap) (x5 : AV) (x6 : AV) (x7 : AV) : Lp21_0 F n h0 (m + 1) h x5 x6 x7 = (lenA E 23 x5).bind fun n8 => (binAV E .lss 3 x7 (.lit (.int .i64 n8))).bind fun r9 => (boolOf r9).bind fun b10 => cond b10 ((lenA E 23 x6).bind fun n11 => (binAV E .lss 3 x7 (.lit (.int .i64 n11))).bind fun r12 => (boolOf r12).bind fun b13 => cond b13 ((indexA 1 x5 x7).bind fun e14 => (partA false 1 0 e14).bind fun v15 => (indexA 1 x6 x7).bind fun e16 => (partA false 1 0 e16).bind fun v17 => (binAV E .neq 9 v15 v17).bind fun r18 => (boolOf r18).bind fun b19 => cond b19 (some (.ret (.lit (.bool false)), h)) ((binAV E .add 3 x7 (.lit (.int .i64 1))).bind fun r20 => Lp21_0 F n h0 m h x5 x6 r20)) (some (.ret (.lit (.bool true)), h))) (some (.ret (.lit (.bool true)), h)) := by kernel_rfl
theorem nf21 (a0_ : AV) (a1_ : AV) : runF E 21 Try.f21 F n [a0_, a1_] h0 = (lenA E 23 a0_).bind fun n1 => (lenA E 23 a1_).bind fun n2 => (binAV E .neq 3 (.lit (.int .i64 n1)) (.lit (.int .i64 n2))).bind fun r3 => (boolOf r3).bind fun b4 => cond b4 (some (.ret (.lit (.bool false)), h0)) (Lp21_0 F n h0 n h0 a0_ a1_ (.lit (.int .i64 0))) := by kernel_rfl
-- 47 limbeck/ty.Depth
noncomputable def Lp47_0 (m : Nat) (h : Heap) (x3 : AV) (x4 : AV) (x5 : AV) (x6 : AV) : R := loopAt E 47 Try.f47 F n h0 [.r, .r, .l, .r, .b] m { s := lkS [(3, .c (.v x3)), (7, .c (.v x4)), (8, .c (.v x5)), (9, .c (.v x6))], h := h }
-- 48 limbeck/limbeckref04.Depth
noncomputable def Lp48_0 (m : Nat) (h : Heap) (x2 : AV) (x3 : AV) (x4 : AV) (x5 : AV) (x6 : AV) (x7 : AV) (x8 : AV) : R := loopAt E 48 Try.f48 F n h0 [.r, .r, .l, .r, .b] m { s := lkS [(1, .loc [.v x2, .v x3, .v x4, .v x5, .v x6]), (3, .c (.v x7)), (4, .c (.v x8))], h := h }
-- 49 limbeck/limbeckref04.SameAll
noncomputable def Lp49_0 (m : Nat) (h : Heap) (x5 : AV) (x6 : AV) (x7 : AV) : R := loopAt E 49 Try.f49 F n h0 [.r, .r, .l, .r, .b] m { s := lkS [(0, .c (.v x5)), (1, .c (.v x6)), (5, .c (.v x7))], h := h }
theorem Lp49_0_succ (m : Nat) (h : Heap) (x5 : AV) (x6 : AV) (x7 : AV) : Lp49_0 F n h0 (m + 1) h x5 x6 x7 = (lenA E 22 x5).bind fun n8 => (binAV E .lss 3 x7 (.lit (.int .i64 n8))).bind fun r9 => (boolOf r9).bind fun b10 => cond b10 ((lenA E 22 x6).bind fun n11 => (binAV E .lss 3 x7 (.lit (.int .i64 n11))).bind fun r12 => (boolOf r12).bind fun b13 => cond b13 ((indexA 5 x5 x7).bind fun e14 => (partA true 5 0 e14).bind fun v15 => (indexA 5 x6 x7).bind fun e16 => (partA true 5 0 e16).bind fun v17 => onOut (F 69 [v15, v17] h) (fun a18 h19 => (unAV .not a18).bind fun r20 => (boolOf r20).bind fun b21 => cond b21 (some (.ret (.lit (.bool false)), h19)) ((binAV E .add 3 x7 (.lit (.int .i64 1))).bind fun r22 => Lp49_0 F n h0 m h19 x5 x6 r22)) (fun _ _ _ => none) (fun _ _ => none)) (some (.ret (.lit (.bool true)), h))) (some (.ret (.lit (.bool true)), h)) := by kernel_rfl
theorem nf49 (a0_ : AV) (a1_ : AV) : runF E 49 Try.f49 F n [a0_, a1_] h0 = (lenA E 22 a0_).bind fun n1 => (lenA E 22 a1_).bind fun n2 => (binAV E .neq 3 (.lit (.int .i64 n1)) (.lit (.int .i64 n2))).bind fun r3 => (boolOf r3).bind fun b4 => cond b4 (some (.ret (.lit (.bool false)), h0)) (Lp49_0 F n h0 n h0 a0_ a1_ (.lit (.int .i64 0))) := by kernel_rfl
-- 59 limbeck/name.Fine
-- 61 limbeck/name.Var
-- 63 slices.Equal[[]string,string]
noncomputable def Lp63_0 (m : Nat) (h : Heap) (x6 : AV) (x7 : AV) (x8 : AV) (x9 : AV) : R := loopAt E 63 Try.f63 F n h0 [.r, .r, .l, .r, .b] m { s := lkS [(0, .c (.v x6)), (1, .c (.v x7)), (12, .c (.v x8)), (13, .c (.v x9))], h := h }
theorem Lp63_0_succ (m : Nat) (h : Heap) (x6 : AV) (x7 : AV) (x8 : AV) (x9 : AV) : Lp63_0 F n h0 (m + 1) h x6 x7 x8 x9 = (binAV E .lss 3 x9 x8).bind fun r10 => (boolOf r10).bind fun b11 => cond b11 ((indexA 1 x6 x9).bind fun e12 => (partA false 1 0 e12).bind fun v13 => (indexA 1 x7 x9).bind fun e14 => (partA false 1 0 e14).bind fun v15 => (binAV E .neq 9 v13 v15).bind fun r16 => (boolOf r16).bind fun b17 => cond b17 (some (.ret (.lit (.bool false)), h)) ((binAV E .add 3 x9 (.lit (.int .i64 1))).bind fun r18 => Lp63_0 F n h0 m h x6 x7 x8 r18)) (some (.ret (.lit (.bool true)), h)) := by kernel_rfl
theorem nf63 (a0_ : AV) (a1_ : AV) : runF E 63 Try.f63 F n [a0_, a1_] h0 = (lenA E 23 a0_).bind fun n1 => (lenA E 23 a1_).bind fun n2 => (binAV E .neq 3 (.lit (.int .i64 n1)) (.lit (.int .i64 n2))).bind fun r3 => (boolOf r3).bind fun b4 => cond b4 (some (.ret (.lit (.bool false)), h0)) ((lenA E 23 a0_).bind fun n5 => Lp63_0 F n h0 n h0 a0_ a1_ (.lit (.int .i64 n5)) (.lit (.int .i64 0))) := by kernel_rfl
-- 64 slices.EqualFunc[[]limbeck/api.Ty,[]limbeck/api.Ty,limbeck/api.Ty,limbeck/api.Ty]
noncomputable def Lp64_0 (m : Nat) (h : Heap) (x6 : AV) (x7 : AV) (x8 : AV) (x9 : AV) (x10 : AV) : R := loopAt E 64 Try.f64 F n h0 [.r, .r, .l, .r, .b] m { s := lkS [(1, .c (.v x6)), (2, .c (.v x7)), (15, .c (.v x8)), (16, .c (.v x9)), (17, .c (.v x10))], h := h }
theorem Lp64_0_succ (m : Nat) (h : Heap) (x6 : AV) (x7 : AV) (x8 : AV) (x9 : AV) (x10 : AV) : Lp64_0 F n h0 (m + 1) h x6 x7 x8 x9 x10 = (binAV E .lss 3 x10 x9).bind fun r11 => (boolOf r11).bind fun b12 => cond b12 ((indexA 5 x8 x10).bind fun e13 => (partA true 5 0 e13).bind fun v14 => (aggOf v14).bind fun l15 => cond (Nat.beq l15.length 5) ((indexA 5 x6 x10).bind fun e16 => (partA true 5 0 e16).bind fun v17 => (aggOf v17).bind fun l18 => cond (Nat.beq l18.length 5) (onOut (applyV F x7 [.agg [(l15.getD 0 .dead), (l15.getD 1 .dead), (l15.getD 2 .dead), (l15.getD 3 .dead), (l15.getD 4 .dead)], .agg [(l18.getD 0 .dead), (l18.getD 1 .dead), (l18.getD 2 .dead), (l18.getD 3 .dead), (l18.getD 4 .dead)]] h) (fun a19 h20 => (unAV .not a19).bind fun r21 => (boolOf r21).bind fun b22 => cond b22 (some (.ret (.lit (.bool false)), h20)) ((binAV E .add 3 x10 (.lit (.int .i64 1))).bind fun r23 => Lp64_0 F n h0 m h20 x6 x7 x8 x9 r23)) (fun _ _ _ => none) (fun _ _ => none)) none) none) (some (.ret (.lit (.bool true)), h)) := by kernel_rfl
theorem nf64 (a0_ : AV) (a1_ : AV) (a2_ : AV) : runF E 64 Try.f64 F n [a0_, a1_, a2_] h0 = (lenA E 22 a0_).bind fun n1 => (lenA E 22 a1_).bind fun n2 => (binAV E .neq 3 (.lit (.int .i64 n1)) (.lit (.int .i64 n2))).bind fun r3 => (boolOf r3).bind fun b4 => cond b4 (some (.ret (.lit (.bool false)), h0)) ((lenA E 22 a0_).bind fun n5 => Lp64_0 F n h0 n h0 a1_ a2_ a0_ (.lit (.int .i64 n5)) (.lit (.int .i64 0))) := by kernel_rfl
-- 65 limbeck/ty.Same
theorem nf65 (a0_ : AV) (a1_ : AV) : runF E 65 Try.f65 F n [a0_, a1_] h0 = (aggOf a0_).bind fun l1 => cond (Nat.beq l1.length 5) ((aggOf a1_).bind fun l2 => cond (Nat.beq l2.length 5) ((binAV E .eql 3 (l1.getD 0 .dead) (l2.getD 0 .dead)).bind fun r3 => (boolOf r3).bind fun b4 => cond b4 ((binAV E .eql 3 (l1.getD 1 .dead) (l2.getD 1 .dead)).bind fun r5 => (boolOf r5).bind fun b6 => cond b6 ((binAV E .eql 9 (l1.getD 2 .dead) (l2.getD 2 .dead)).bind fun r7 => (boolOf r7).bind fun b8 => cond b8 (onOut (F 63 [(l1.getD 3 .dead), (l2.getD 3 .dead)] h0) (fun a9 h10 => (boolOf a9).bind fun b11 => cond b11 (onOut (F 64 [(l1.getD 4 .dead), (l2.getD 4 .dead), .fn 65 [] []] h10) (fun a12 h13 => some (.ret a12, h13)) (fun _ _ _ => none) (fun _ _ => none)) (some (.ret (.lit (.bool false)), h10))) (fun _ _ _ => none) (fun _ _ => none)) (some (.ret (.lit (.bool false)), h0))) (some (.ret (.lit (.bool false)), h0))) (some (.ret (.lit (.bool false)), h0))) none) none := by kernel_rfl
-- 69 limbeck/limbeckref04.Same
noncomputable def Lp69_0 (m : Nat) (h : Heap) (x17 : AV) (x18 : AV) (x19 : AV) (x20 : AV) (x21 : AV) (x22 : AV) (x23 : AV) (x24 : AV) (x25 : AV) (x26 : AV) (x27 : AV) : R := loopAt E 69 Try.f69 F n h0 [.r, .r, .l, .r, .b] m { s := lkS [(2, .loc [.v x17, .v x18, .v x19, .v x20, .v x21]), (3, .loc [.v x22, .v x23, .v x24, .v x25, .v x26]), (5, .c (.v x27))], h := h }
theorem Lp69_0_succ (m : Nat) (h : Heap) (x17 : AV) (x18 : AV) (x19 : AV) (x20 : AV) (x21 : AV) (x22 : AV) (x23 : AV) (x24 : AV) (x25 : AV) (x26 : AV) (x27 : AV) : Lp69_0 F n h0 (m + 1) h x17 x18 x19 x20 x21 x22 x23 x24 x25 x26 x27 = (lenA E 22 x21).bind fun n28 => (binAV E .lss 3 x27 (.lit (.int .i64 n28))).bind fun r29 => (boolOf r29).bind fun b30 => cond b30 ((lenA E 22 x26).bind fun n31 => (binAV E .lss 3 x27 (.lit (.int .i64 n31))).bind fun r32 => (boolOf r32).bind fun b33 => cond b33 ((indexA 5 x21 x27).bind fun e34 => (partA true 5 0 e34).bind fun v35 => (indexA 5 x26 x27).bind fun e36 => (partA true 5 0 e36).bind fun v37 => onOut (F 69 [v35, v37] h) (fun a38 h39 => (unAV .not a38).bind fun r40 => (boolOf r40).bind fun b41 => cond b41 (some (.ret (.lit (.bool false)), h39)) ((binAV E .add 3 x27 (.lit (.int .i64 1))).bind fun r42 => Lp69_0 F n h0 m h39 x17 x18 x19 x20 x21 x22 x23 x24 x25 x26 r42)) (fun _ _ _ => none) (fun _ _ => none)) (some (.ret (.lit (.bool true)), h))) (some (.ret (.lit (.bool true)), h)) := by kernel_rfl
theorem nf69 (a0_ : AV) (a1_ : AV) : runF E 69 Try.f69 F n [a0_, a1_] h0 = (aggOf a0_).bind fun l1 => cond (Nat.beq l1.length 5) ((aggOf a1_).bind fun l2 => cond (Nat.beq l2.length 5) ((binAV E .neq 3 (l1.getD 0 .dead) (l2.getD 0 .dead)).bind fun r3 => (boolOf r3).bind fun b4 => cond b4 (some (.ret (.lit (.bool false)), h0)) ((binAV E .neq 3 (l1.getD 1 .dead) (l2.getD 1 .dead)).bind fun r5 => (boolOf r5).bind fun b6 => cond b6 (some (.ret (.lit (.bool false)), h0)) ((binAV E .neq 9 (l1.getD 2 .dead) (l2.getD 2 .dead)).bind fun r7 => (boolOf r7).bind fun b8 => cond b8 (some (.ret (.lit (.bool false)), h0)) (onOut (F 21 [(l1.getD 3 .dead), (l2.getD 3 .dead)] h0) (fun a9 h10 => (unAV .not a9).bind fun r11 => (boolOf r11).bind fun b12 => cond b12 (some (.ret (.lit (.bool false)), h10)) ((lenA E 22 (l1.getD 4 .dead)).bind fun n13 => (lenA E 22 (l2.getD 4 .dead)).bind fun n14 => (binAV E .neq 3 (.lit (.int .i64 n13)) (.lit (.int .i64 n14))).bind fun r15 => (boolOf r15).bind fun b16 => cond b16 (some (.ret (.lit (.bool false)), h10)) (Lp69_0 F n h0 n h10 (l1.getD 0 .dead) (l1.getD 1 .dead) (l1.getD 2 .dead) (l1.getD 3 .dead) (l1.getD 4 .dead) (l2.getD 0 .dead) (l2.getD 1 .dead) (l2.getD 2 .dead) (l2.getD 3 .dead) (l2.getD 4 .dead) (.lit (.int .i64 0))))) (fun _ _ _ => none) (fun _ _ => none))))) none) none := by kernel_rfl
-- 70 limbeck/name.Rising
noncomputable def Lp70_0 (m : Nat) (h : Heap) (x2 : AV) (x3 : AV) (x4 : AV) (x5 : AV) : R := loopAt E 70 Try.f70 F n h0 [.r, .l, .r, .b] m { s := lkS [(0, .c (.v x2)), (5, .c (.v x3)), (6, .c (.v x4)), (7, .c (.v x5))], h := h }
-- 71 slices.ContainsFunc[[]limbeck/api.Ty,limbeck/api.Ty]
-- 73 limbeck/ty.Right
-- 80 limbeck/limbeckref01.Fine
-- 81 limbeck/limbeckref01.Rising
noncomputable def Lp81_0 (m : Nat) (h : Heap) (x1 : AV) (x2 : AV) : R := loopAt E 81 Try.f81 F n h0 [.r, .l, .r, .b] m { s := lkS [(0, .c (.v x1)), (3, .c (.v x2))], h := h }
-- 87 limbeck/name.Kind
-- 88 limbeck/limbeckref01.Var
-- 89 limbeck/limbeckref01.Place
noncomputable def Lp89_0 (m : Nat) (h : Heap) (x1 : AV) (x2 : AV) (x3 : AV) : R := loopAt E 89 Try.f89 F n h0 [.r, .l, .r, .b] m { s := lkS [(0, .c (.v x1)), (1, .c (.v x2)), (5, .c (.v x3))], h := h }
-- 93 slices.IndexFunc[[]limbeck/api.Ty,limbeck/api.Ty]
noncomputable def Lp93_0 (m : Nat) (h : Heap) (x2 : AV) (x3 : AV) (x4 : AV) (x5 : AV) : R := loopAt E 93 Try.f93 F n h0 [.r, .l, .r, .b] m { s := lkS [(0, .c (.v x2)), (1, .c (.v x3)), (7, .c (.v x4)), (8, .c (.v x5))], h := h }
-- 94 limbeck/ty.bare
-- 95 limbeck/ty.Right$1
-- 99 limbeck/limbeckref01.Kind
noncomputable def Lp99_0 (m : Nat) (h : Heap) (x19 : AV) (x20 : AV) (x21 : AV) : R := loopAt E 99 Try.f99 F n h0 [.r, .r, .r, .r, .r, .r, .l, .r, .b] m { s := lkS [(0, .c (.v x19)), (4, .c (.v x20)), (5, .c (.v x21))], h := h }
-- 100 limbeck/limbeckref04.Right
noncomputable def Lp100_0 (m : Nat) (h : Heap) (x2 : AV) (x3 : AV) (x4 : AV) (x5 : AV) (x6 : AV) (x7 : AV) : R := loopAt E 100 Try.f100 F n h0 [.r, .l, .r, .b] m { s := lkS [(1, .loc [.v x2, .v x3, .v x4, .v x5, .v x6]), (3, .c (.v x7))], h := h }
-- 101 limbeck/limbeckref04.Has
noncomputable def Lp101_0 (m : Nat) (h : Heap) (x4 : AV) (x5 : AV) (x6 : AV) (x7 : AV) (x8 : AV) (x9 : AV) (x10 : AV) : R := loopAt E 101 Try.f101 F n h0 [.r, .r, .l, .r, .b] m { s := lkS [(1, .c (.v x4)), (2, .loc [.v x5, .v x6, .v x7, .v x8, .v x9]), (5, .c (.v x10))], h := h }
-- 105 limbeck/limbeckref01.Kept
noncomputable def Lp105_1 (m : Nat) (h : Heap) (x12 : AV) (z13 : List (List AV)) (x14 : AV) : R := loopAt E 105 Try.f105 F n h0 [.r, .r, .r, .r, .l, .r, .b] m { s := lkS [(0, .c (.v x12)), (5, .c (.own 1 z13)), (6, .c (.v x14))], h := h }
noncomputable def Lp105_0 (m : Nat) (h : Heap) (x1 : AV) (z2 : List (List AV)) (x3 : AV) : R := loopAt E 105 Try.f105 F n h0 [.r, .r, .l, .r, .b] m { s := lkS [(0, .c (.v x1)), (3, .c (.own 1 z2)), (4, .c (.v x3))], h := h }
-- 106 limbeck/limbeckref01.Low
-- 107 limbeck/limbeckref01.Up
-- 108 limbeck/limbeckref01.Digit
-- 120 limbeck/name.low
-- 121 limbeck/name.up
-- 122 limbeck/name.digit
-- 79 limbeck/ty.nodes
end
end Go.Sh.T

namespace Go.Sh.T
set_option linter.unusedVariables false
set_option linter.unusedSimpArgs false
open Go Go.Sh Go.Proofs
theorem primsOk : PrimsOk E := by
  intro f p hf call hs args h out h' e
  have hf : lkN prims f = some p := hf
  have hm := lkN_mem hf
  simp only [prims, List.mem_cons, Prod.mk.injEq, List.not_mem_nil, or_false] at hm
  rcases hm with ⟨rfl, rfl⟩ | ⟨rfl, rfl⟩ | ⟨rfl, rfl⟩ | ⟨rfl, rfl⟩ | ⟨rfl, rfl⟩ | ⟨rfl, rfl⟩
  · exact p104_ok call args h out h' e
  · exact p74_ok call args h out h' e
  · exact p45_ok call args h out h' e
  · exact p10_ok call args h out h' e
  · exact p11_ok call args h out h' e
  · exact p12_ok call args h out h' e
theorem primsC : PrimsC E := by
  intro f p hf
  have hf : lkN prims f = some p := hf
  have hm := lkN_mem hf
  simp only [prims, List.mem_cons, Prod.mk.injEq, List.not_mem_nil, or_false] at hm
  rcases hm with ⟨rfl, rfl⟩ | ⟨rfl, rfl⟩ | ⟨rfl, rfl⟩ | ⟨rfl, rfl⟩ | ⟨rfl, rfl⟩ | ⟨rfl, rfl⟩ <;> exact PrimC.const _
end Go.Sh.T
