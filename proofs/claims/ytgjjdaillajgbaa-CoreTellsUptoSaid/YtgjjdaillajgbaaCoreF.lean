/- CoreF: part of the proof: a shadow of the machine that is proved sound, and what the functions of this seat compute. Conditions: none. -/
import Derived.Test.YtgjjdaillajgbaaCoreD
import Derived.Test.YtgjjdaillajgbaaCoreC
import Derived.Test.YtgjjdaillajgbaaCoreE
namespace Go.Sh.T
open Go Go.Sh Go.Proofs
set_option maxRecDepth 1000000
set_option linter.unusedVariables false
section
variable (F : Nat → List AV → Heap → R) (n : Nat) (h0 : Heap)
-- 38 limbeck/core.Right
theorem nf38 (a0_ : AV) : runF E 38 Try.f38 F n [a0_] h0 = (aggOf a0_).bind fun l1 => cond (Nat.beq l1.length 11) ((lenA E 55 (l1.getD 10 .dead)).bind fun n2 => (binAV E .gtr 3 (.lit (.int .i64 n2)) (.lit (.int .i64 0))).bind fun r3 => (boolOf r3).bind fun b4 => cond b4 (some (.ret (.lit (.bool false)), h0)) ((binAV E .neq 3 (l1.getD 0 .dead) (.lit (.int .i64 9))).bind fun r5 => (boolOf r5).bind fun b6 => cond b6 ((lenA E 31 (l1.getD 8 .dead)).bind fun n7 => (binAV E .gtr 3 (.lit (.int .i64 n7)) (.lit (.int .i64 0))).bind fun r8 => (boolOf r8).bind fun b9 => cond b9 (some (.ret (.lit (.bool false)), h0)) (onOut (F 88 [.agg [(l1.getD 0 .dead), (l1.getD 1 .dead), (l1.getD 2 .dead), (l1.getD 3 .dead), (l1.getD 4 .dead), (l1.getD 5 .dead), (l1.getD 6 .dead), (l1.getD 7 .dead), (l1.getD 8 .dead), (l1.getD 9 .dead), (l1.getD 10 .dead)]] h0) (fun a10 h11 => (boolOf a10).bind fun b12 => cond b12 (onOut (F 89 [.agg [(l1.getD 0 .dead), (l1.getD 1 .dead), (l1.getD 2 .dead), (l1.getD 3 .dead), (l1.getD 4 .dead), (l1.getD 5 .dead), (l1.getD 6 .dead), (l1.getD 7 .dead), (l1.getD 8 .dead), (l1.getD 9 .dead), (l1.getD 10 .dead)]] h11) (fun a13 h14 => (boolOf a13).bind fun b15 => cond b15 (onOut (F 90 [.agg [(l1.getD 0 .dead), (l1.getD 1 .dead), (l1.getD 2 .dead), (l1.getD 3 .dead), (l1.getD 4 .dead), (l1.getD 5 .dead), (l1.getD 6 .dead), (l1.getD 7 .dead), (l1.getD 8 .dead), (l1.getD 9 .dead), (l1.getD 10 .dead)]] h14) (fun a16 h17 => (boolOf a16).bind fun b18 => cond b18 (onOut (F 91 [.agg [(l1.getD 0 .dead), (l1.getD 1 .dead), (l1.getD 2 .dead), (l1.getD 3 .dead), (l1.getD 4 .dead), (l1.getD 5 .dead), (l1.getD 6 .dead), (l1.getD 7 .dead), (l1.getD 8 .dead), (l1.getD 9 .dead), (l1.getD 10 .dead)]] h17) (fun a19 h20 => (boolOf a19).bind fun b21 => cond b21 (onOut (F 92 [(l1.getD 9 .dead), .fn 93 [] []] h20) (fun a22 h23 => (unAV .not a22).bind fun r24 => some (.ret r24, h23)) (fun _ _ _ => none) (fun _ _ => none)) (some (.ret (.lit (.bool false)), h20))) (fun _ _ _ => none) (fun _ _ => none)) (some (.ret (.lit (.bool false)), h17))) (fun _ _ _ => none) (fun _ _ => none)) (some (.ret (.lit (.bool false)), h14))) (fun _ _ _ => none) (fun _ _ => none)) (some (.ret (.lit (.bool false)), h11))) (fun _ _ _ => none) (fun _ _ => none))) (onOut (F 88 [.agg [(l1.getD 0 .dead), (l1.getD 1 .dead), (l1.getD 2 .dead), (l1.getD 3 .dead), (l1.getD 4 .dead), (l1.getD 5 .dead), (l1.getD 6 .dead), (l1.getD 7 .dead), (l1.getD 8 .dead), (l1.getD 9 .dead), (l1.getD 10 .dead)]] h0) (fun a25 h26 => (boolOf a25).bind fun b27 => cond b27 (onOut (F 89 [.agg [(l1.getD 0 .dead), (l1.getD 1 .dead), (l1.getD 2 .dead), (l1.getD 3 .dead), (l1.getD 4 .dead), (l1.getD 5 .dead), (l1.getD 6 .dead), (l1.getD 7 .dead), (l1.getD 8 .dead), (l1.getD 9 .dead), (l1.getD 10 .dead)]] h26) (fun a28 h29 => (boolOf a28).bind fun b30 => cond b30 (onOut (F 90 [.agg [(l1.getD 0 .dead), (l1.getD 1 .dead), (l1.getD 2 .dead), (l1.getD 3 .dead), (l1.getD 4 .dead), (l1.getD 5 .dead), (l1.getD 6 .dead), (l1.getD 7 .dead), (l1.getD 8 .dead), (l1.getD 9 .dead), (l1.getD 10 .dead)]] h29) (fun a31 h32 => (boolOf a31).bind fun b33 => cond b33 (onOut (F 91 [.agg [(l1.getD 0 .dead), (l1.getD 1 .dead), (l1.getD 2 .dead), (l1.getD 3 .dead), (l1.getD 4 .dead), (l1.getD 5 .dead), (l1.getD 6 .dead), (l1.getD 7 .dead), (l1.getD 8 .dead), (l1.getD 9 .dead), (l1.getD 10 .dead)]] h32) (fun a34 h35 => (boolOf a34).bind fun b36 => cond b36 (onOut (F 92 [(l1.getD 9 .dead), .fn 93 [] []] h35) (fun a37 h38 => (unAV .not a37).bind fun r39 => some (.ret r39, h38)) (fun _ _ _ => none) (fun _ _ => none)) (some (.ret (.lit (.bool false)), h35))) (fun _ _ _ => none) (fun _ _ => none)) (some (.ret (.lit (.bool false)), h32))) (fun _ _ _ => none) (fun _ _ => none)) (some (.ret (.lit (.bool false)), h29))) (fun _ _ _ => none) (fun _ _ => none)) (some (.ret (.lit (.bool false)), h26))) (fun _ _ _ => none) (fun _ _ => none)))) none := by kernel_rfl
-- 39 limbeck/limbeckref26.Right
noncomputable def Lp39_0 (m : Nat) (h : Heap) (x6 : AV) (x7 : AV) (x8 : AV) (x9 : AV) (x10 : AV) (x11 : AV) (x12 : AV) (x13 : AV) (x14 : AV) (x15 : AV) (x16 : AV) (x17 : AV) : R := loopAt E 39 Try.f39 F n h0 [.r, .r, .l, .r, .b] m { s := lkS [(1, .loc [.v x6, .v x7, .v x8, .v x9, .v x10, .v x11, .v x12, .v x13, .v x14, .v x15, .v x16]), (3, .c (.v x17))], h := h }
theorem Lp39_0_zero (h : Heap) (x6 : AV) (x7 : AV) (x8 : AV) (x9 : AV) (x10 : AV) (x11 : AV) (x12 : AV) (x13 : AV) (x14 : AV) (x15 : AV) (x16 : AV) (x17 : AV) : Lp39_0 F n h0 0 h x6 x7 x8 x9 x10 x11 x12 x13 x14 x15 x16 x17 = none := by kernel_rfl
theorem Lp39_0_succ (m : Nat) (h : Heap) (x6 : AV) (x7 : AV) (x8 : AV) (x9 : AV) (x10 : AV) (x11 : AV) (x12 : AV) (x13 : AV) (x14 : AV) (x15 : AV) (x16 : AV) (x17 : AV) : Lp39_0 F n h0 (m + 1) h x6 x7 x8 x9 x10 x11 x12 x13 x14 x15 x16 x17 = (lenA E 54 x15).bind fun n18 => (binAV E .lss 3 x17 (.lit (.int .i64 n18))).bind fun r19 => (boolOf r19).bind fun b20 => cond b20 ((indexA 11 x15 x17).bind fun e21 => (partA true 11 0 e21).bind fun v22 => onOut (F 39 [v22] h) (fun a23 h24 => (unAV .not a23).bind fun r25 => (boolOf r25).bind fun b26 => cond b26 (some (.ret (.lit (.bool false)), h24)) ((binAV E .add 3 x17 (.lit (.int .i64 1))).bind fun r27 => Lp39_0 F n h0 m h24 x6 x7 x8 x9 x10 x11 x12 x13 x14 x15 x16 r27)) (fun _ _ _ => none) (fun _ _ => none)) (some (.ret (.lit (.bool true)), h)) := by kernel_rfl
theorem nf39 (a0_ : AV) : runF E 39 Try.f39 F n [a0_] h0 = (aggOf a0_).bind fun l1 => cond (Nat.beq l1.length 11) (onOut (F 94 [.agg [(l1.getD 0 .dead), (l1.getD 1 .dead), (l1.getD 2 .dead), (l1.getD 3 .dead), (l1.getD 4 .dead), (l1.getD 5 .dead), (l1.getD 6 .dead), (l1.getD 7 .dead), (l1.getD 8 .dead), (l1.getD 9 .dead), (l1.getD 10 .dead)]] h0) (fun a2 h3 => (unAV .not a2).bind fun r4 => (boolOf r4).bind fun b5 => cond b5 (some (.ret (.lit (.bool false)), h3)) (Lp39_0 F n h0 n h3 (l1.getD 0 .dead) (l1.getD 1 .dead) (l1.getD 2 .dead) (l1.getD 3 .dead) (l1.getD 4 .dead) (l1.getD 5 .dead) (l1.getD 6 .dead) (l1.getD 7 .dead) (l1.getD 8 .dead) (l1.getD 9 .dead) (l1.getD 10 .dead) (.lit (.int .i64 0)))) (fun _ _ _ => none) (fun _ _ => none)) none := by kernel_rfl
-- 88 limbeck/core.worded
theorem nf88 (a0_ : AV) : runF E 88 Try.f88 F n [a0_] h0 = (aggOf a0_).bind fun l1 => cond (Nat.beq l1.length 11) ((binAV E .eql 3 (l1.getD 0 .dead) (.lit (.int .i64 4))).bind fun r2 => (boolOf r2).bind fun b3 => cond b3 ((boolOf r2).bind fun b4 => cond b4 (onOut (F 141 [(l1.getD 4 .dead)] h0) (fun a5 h6 => some (.ret a5, h6)) (fun _ _ _ => none) (fun _ _ => none)) ((binAV E .eql 3 (l1.getD 0 .dead) (.lit (.int .i64 3))).bind fun r7 => (boolOf r7).bind fun b8 => cond b8 ((lenA E 9 (l1.getD 4 .dead)).bind fun n9 => (binAV E .leq 3 (.lit (.int .i64 n9)) (.lit (.int .i64 40))).bind fun r10 => some (.ret r10, h0)) ((binAV E .eql 9 (l1.getD 4 .dead) (.lit (.string ByteArray.empty))).bind fun r11 => some (.ret r11, h0)))) ((binAV E .eql 3 (l1.getD 0 .dead) (.lit (.int .i64 5))).bind fun r12 => (boolOf r12).bind fun b13 => cond b13 ((boolOf r12).bind fun b14 => cond b14 (onOut (F 141 [(l1.getD 4 .dead)] h0) (fun a15 h16 => some (.ret a15, h16)) (fun _ _ _ => none) (fun _ _ => none)) ((binAV E .eql 3 (l1.getD 0 .dead) (.lit (.int .i64 3))).bind fun r17 => (boolOf r17).bind fun b18 => cond b18 ((lenA E 9 (l1.getD 4 .dead)).bind fun n19 => (binAV E .leq 3 (.lit (.int .i64 n19)) (.lit (.int .i64 40))).bind fun r20 => some (.ret r20, h0)) ((binAV E .eql 9 (l1.getD 4 .dead) (.lit (.string ByteArray.empty))).bind fun r21 => some (.ret r21, h0)))) ((binAV E .eql 3 (l1.getD 0 .dead) (.lit (.int .i64 7))).bind fun r22 => (boolOf r22).bind fun b23 => cond b23 ((boolOf r22).bind fun b24 => cond b24 (onOut (F 141 [(l1.getD 4 .dead)] h0) (fun a25 h26 => some (.ret a25, h26)) (fun _ _ _ => none) (fun _ _ => none)) ((binAV E .eql 3 (l1.getD 0 .dead) (.lit (.int .i64 3))).bind fun r27 => (boolOf r27).bind fun b28 => cond b28 ((lenA E 9 (l1.getD 4 .dead)).bind fun n29 => (binAV E .leq 3 (.lit (.int .i64 n29)) (.lit (.int .i64 40))).bind fun r30 => some (.ret r30, h0)) ((binAV E .eql 9 (l1.getD 4 .dead) (.lit (.string ByteArray.empty))).bind fun r31 => some (.ret r31, h0)))) ((binAV E .eql 3 (l1.getD 0 .dead) (.lit (.int .i64 10))).bind fun r32 => (boolOf r32).bind fun b33 => cond b33 ((boolOf r32).bind fun b34 => cond b34 (onOut (F 141 [(l1.getD 4 .dead)] h0) (fun a35 h36 => some (.ret a35, h36)) (fun _ _ _ => none) (fun _ _ => none)) ((binAV E .eql 3 (l1.getD 0 .dead) (.lit (.int .i64 3))).bind fun r37 => (boolOf r37).bind fun b38 => cond b38 ((lenA E 9 (l1.getD 4 .dead)).bind fun n39 => (binAV E .leq 3 (.lit (.int .i64 n39)) (.lit (.int .i64 40))).bind fun r40 => some (.ret r40, h0)) ((binAV E .eql 9 (l1.getD 4 .dead) (.lit (.string ByteArray.empty))).bind fun r41 => some (.ret r41, h0)))) ((binAV E .eql 3 (l1.getD 0 .dead) (.lit (.int .i64 13))).bind fun r42 => (boolOf r42).bind fun b43 => cond b43 (onOut (F 141 [(l1.getD 4 .dead)] h0) (fun a44 h45 => some (.ret a44, h45)) (fun _ _ _ => none) (fun _ _ => none)) ((binAV E .eql 3 (l1.getD 0 .dead) (.lit (.int .i64 3))).bind fun r46 => (boolOf r46).bind fun b47 => cond b47 ((lenA E 9 (l1.getD 4 .dead)).bind fun n48 => (binAV E .leq 3 (.lit (.int .i64 n48)) (.lit (.int .i64 40))).bind fun r49 => some (.ret r49, h0)) ((binAV E .eql 9 (l1.getD 4 .dead) (.lit (.string ByteArray.empty))).bind fun r50 => some (.ret r50, h0)))))))) none := by kernel_rfl
-- 89 limbeck/core.numbered
theorem nf89 (a0_ : AV) : runF E 89 Try.f89 F n [a0_] h0 = (aggOf a0_).bind fun l1 => cond (Nat.beq l1.length 11) ((binAV E .eql 3 (l1.getD 0 .dead) (.lit (.int .i64 12))).bind fun r2 => (boolOf r2).bind fun b3 => cond b3 ((binAV E .neq 3 (l1.getD 2 .dead) (.lit (.int .i64 0))).bind fun r4 => (boolOf r4).bind fun b5 => cond b5 (some (.ret (.lit (.bool false)), h0)) ((boolOf (l1.getD 3 .dead)).bind fun b6 => cond b6 (some (.ret (.lit (.bool false)), h0)) ((binAV E .eql 3 (l1.getD 0 .dead) (.lit (.int .i64 1))).bind fun r7 => (boolOf r7).bind fun b8 => cond b8 (some (.ret (.lit (.bool true)), h0)) ((binAV E .eql 3 (l1.getD 0 .dead) (.lit (.int .i64 2))).bind fun r9 => (boolOf r9).bind fun b10 => cond b10 ((binAV E .eql 3 (l1.getD 1 .dead) (.lit (.int .i64 0))).bind fun r11 => (boolOf r11).bind fun b12 => cond b12 (some (.ret (.lit (.bool true)), h0)) ((binAV E .eql 3 (l1.getD 1 .dead) (.lit (.int .i64 1))).bind fun r13 => some (.ret r13, h0))) ((binAV E .eql 3 (l1.getD 0 .dead) (.lit (.int .i64 11))).bind fun r14 => (boolOf r14).bind fun b15 => cond b15 ((binAV E .geq 3 (l1.getD 1 .dead) (.lit (.int .i64 1))).bind fun r16 => (boolOf r16).bind fun b17 => cond b17 ((binAV E .leq 3 (l1.getD 1 .dead) (.lit (.int .i64 7))).bind fun r18 => some (.ret r18, h0)) (some (.ret (.lit (.bool false)), h0))) ((binAV E .eql 3 (l1.getD 1 .dead) (.lit (.int .i64 0))).bind fun r19 => some (.ret r19, h0))))))) ((binAV E .eql 3 (l1.getD 0 .dead) (.lit (.int .i64 13))).bind fun r20 => (binAV E .neq 3 (l1.getD 2 .dead) (.lit (.int .i64 0))).bind fun r21 => (boolOf r21).bind fun b22 => cond b22 (some (.ret (.lit (.bool false)), h0)) ((boolOf (l1.getD 3 .dead)).bind fun b23 => cond b23 (some (.ret (.lit (.bool false)), h0)) ((unAV .not r20).bind fun r24 => (boolOf r24).bind fun b25 => cond b25 ((binAV E .neq 25 (.agg [(l1.getD 5 .dead), (l1.getD 6 .dead)]) (.agg [.lit (.string ByteArray.empty), .lit (.int .i64 0)])).bind fun r26 => (boolOf r26).bind fun b27 => cond b27 (some (.ret (.lit (.bool false)), h0)) ((binAV E .eql 3 (l1.getD 0 .dead) (.lit (.int .i64 1))).bind fun r28 => (boolOf r28).bind fun b29 => cond b29 (some (.ret (.lit (.bool true)), h0)) ((binAV E .eql 3 (l1.getD 0 .dead) (.lit (.int .i64 2))).bind fun r30 => (boolOf r30).bind fun b31 => cond b31 ((binAV E .eql 3 (l1.getD 1 .dead) (.lit (.int .i64 0))).bind fun r32 => (boolOf r32).bind fun b33 => cond b33 (some (.ret (.lit (.bool true)), h0)) ((binAV E .eql 3 (l1.getD 1 .dead) (.lit (.int .i64 1))).bind fun r34 => some (.ret r34, h0))) ((binAV E .eql 3 (l1.getD 0 .dead) (.lit (.int .i64 11))).bind fun r35 => (boolOf r35).bind fun b36 => cond b36 ((binAV E .geq 3 (l1.getD 1 .dead) (.lit (.int .i64 1))).bind fun r37 => (boolOf r37).bind fun b38 => cond b38 ((binAV E .leq 3 (l1.getD 1 .dead) (.lit (.int .i64 7))).bind fun r39 => some (.ret r39, h0)) (some (.ret (.lit (.bool false)), h0))) ((binAV E .eql 3 (l1.getD 1 .dead) (.lit (.int .i64 0))).bind fun r40 => some (.ret r40, h0)))))) ((binAV E .eql 3 (l1.getD 0 .dead) (.lit (.int .i64 1))).bind fun r41 => (boolOf r41).bind fun b42 => cond b42 (some (.ret (.lit (.bool true)), h0)) ((binAV E .eql 3 (l1.getD 0 .dead) (.lit (.int .i64 2))).bind fun r43 => (boolOf r43).bind fun b44 => cond b44 ((binAV E .eql 3 (l1.getD 1 .dead) (.lit (.int .i64 0))).bind fun r45 => (boolOf r45).bind fun b46 => cond b46 (some (.ret (.lit (.bool true)), h0)) ((binAV E .eql 3 (l1.getD 1 .dead) (.lit (.int .i64 1))).bind fun r47 => some (.ret r47, h0))) ((binAV E .eql 3 (l1.getD 0 .dead) (.lit (.int .i64 11))).bind fun r48 => (boolOf r48).bind fun b49 => cond b49 ((binAV E .geq 3 (l1.getD 1 .dead) (.lit (.int .i64 1))).bind fun r50 => (boolOf r50).bind fun b51 => cond b51 ((binAV E .leq 3 (l1.getD 1 .dead) (.lit (.int .i64 7))).bind fun r52 => some (.ret r52, h0)) (some (.ret (.lit (.bool false)), h0))) ((binAV E .eql 3 (l1.getD 1 .dead) (.lit (.int .i64 0))).bind fun r53 => some (.ret r53, h0))))))))) none := by kernel_rfl
-- 90 limbeck/core.bearing
theorem nf90 (a0_ : AV) : runF E 90 Try.f90 F n [a0_] h0 = (aggOf a0_).bind fun l1 => cond (Nat.beq l1.length 11) ((lenA E 54 (l1.getD 9 .dead)).bind fun n2 => (binAV E .eql 3 (l1.getD 0 .dead) (.lit (.int .i64 1))).bind fun r3 => (boolOf r3).bind fun b4 => cond b4 ((boolOf r3).bind fun b5 => cond b5 ((binAV E .eql 3 (.lit (.int .i64 n2)) (.lit (.int .i64 0))).bind fun r6 => some (.ret r6, h0)) ((binAV E .eql 3 (l1.getD 0 .dead) (.lit (.int .i64 7))).bind fun r7 => (boolOf r7).bind fun b8 => cond b8 ((boolOf r7).bind fun b9 => cond b9 ((binAV E .eql 3 (.lit (.int .i64 n2)) (.lit (.int .i64 1))).bind fun r10 => some (.ret r10, h0)) ((binAV E .eql 3 (l1.getD 0 .dead) (.lit (.int .i64 5))).bind fun r11 => (boolOf r11).bind fun b12 => cond b12 ((boolOf r11).bind fun b13 => cond b13 ((binAV E .eql 3 (.lit (.int .i64 n2)) (.lit (.int .i64 2))).bind fun r14 => some (.ret r14, h0)) ((binAV E .eql 3 (l1.getD 0 .dead) (.lit (.int .i64 6))).bind fun r15 => (boolOf r15).bind fun b16 => cond b16 ((binAV E .eql 3 (.lit (.int .i64 n2)) (.lit (.int .i64 3))).bind fun r17 => some (.ret r17, h0)) ((binAV E .eql 3 (l1.getD 0 .dead) (.lit (.int .i64 9))).bind fun r18 => (boolOf r18).bind fun b19 => cond b19 ((lenA E 31 (l1.getD 8 .dead)).bind fun n20 => (binAV E .eql 3 (.lit (.int .i64 n2)) (.lit (.int .i64 n20))).bind fun r21 => (boolOf r21).bind fun b22 => cond b22 (onOut (F 138 [(l1.getD 8 .dead)] h0) (fun a23 h24 => some (.ret a23, h24)) (fun _ _ _ => none) (fun _ _ => none)) (some (.ret (.lit (.bool false)), h0))) ((binAV E .eql 3 (l1.getD 0 .dead) (.lit (.int .i64 13))).bind fun r25 => (boolOf r25).bind fun b26 => cond b26 ((binAV E .leq 3 (.lit (.int .i64 n2)) (.lit (.int .i64 4))).bind fun r27 => some (.ret r27, h0)) (some (.ret (.lit (.bool false)), h0)))))) ((binAV E .eql 3 (l1.getD 0 .dead) (.lit (.int .i64 8))).bind fun r28 => (boolOf r28).bind fun b29 => cond b29 ((boolOf r28).bind fun b30 => cond b30 ((binAV E .eql 3 (.lit (.int .i64 n2)) (.lit (.int .i64 2))).bind fun r31 => some (.ret r31, h0)) ((binAV E .eql 3 (l1.getD 0 .dead) (.lit (.int .i64 6))).bind fun r32 => (boolOf r32).bind fun b33 => cond b33 ((binAV E .eql 3 (.lit (.int .i64 n2)) (.lit (.int .i64 3))).bind fun r34 => some (.ret r34, h0)) ((binAV E .eql 3 (l1.getD 0 .dead) (.lit (.int .i64 9))).bind fun r35 => (boolOf r35).bind fun b36 => cond b36 ((lenA E 31 (l1.getD 8 .dead)).bind fun n37 => (binAV E .eql 3 (.lit (.int .i64 n2)) (.lit (.int .i64 n37))).bind fun r38 => (boolOf r38).bind fun b39 => cond b39 (onOut (F 138 [(l1.getD 8 .dead)] h0) (fun a40 h41 => some (.ret a40, h41)) (fun _ _ _ => none) (fun _ _ => none)) (some (.ret (.lit (.bool false)), h0))) ((binAV E .eql 3 (l1.getD 0 .dead) (.lit (.int .i64 13))).bind fun r42 => (boolOf r42).bind fun b43 => cond b43 ((binAV E .leq 3 (.lit (.int .i64 n2)) (.lit (.int .i64 4))).bind fun r44 => some (.ret r44, h0)) (some (.ret (.lit (.bool false)), h0)))))) ((binAV E .eql 3 (l1.getD 0 .dead) (.lit (.int .i64 11))).bind fun r45 => (boolOf r45).bind fun b46 => cond b46 ((binAV E .eql 3 (.lit (.int .i64 n2)) (.lit (.int .i64 2))).bind fun r47 => some (.ret r47, h0)) ((binAV E .eql 3 (l1.getD 0 .dead) (.lit (.int .i64 6))).bind fun r48 => (boolOf r48).bind fun b49 => cond b49 ((binAV E .eql 3 (.lit (.int .i64 n2)) (.lit (.int .i64 3))).bind fun r50 => some (.ret r50, h0)) ((binAV E .eql 3 (l1.getD 0 .dead) (.lit (.int .i64 9))).bind fun r51 => (boolOf r51).bind fun b52 => cond b52 ((lenA E 31 (l1.getD 8 .dead)).bind fun n53 => (binAV E .eql 3 (.lit (.int .i64 n2)) (.lit (.int .i64 n53))).bind fun r54 => (boolOf r54).bind fun b55 => cond b55 (onOut (F 138 [(l1.getD 8 .dead)] h0) (fun a56 h57 => some (.ret a56, h57)) (fun _ _ _ => none) (fun _ _ => none)) (some (.ret (.lit (.bool false)), h0))) ((binAV E .eql 3 (l1.getD 0 .dead) (.lit (.int .i64 13))).bind fun r58 => (boolOf r58).bind fun b59 => cond b59 ((binAV E .leq 3 (.lit (.int .i64 n2)) (.lit (.int .i64 4))).bind fun r60 => some (.ret r60, h0)) (some (.ret (.lit (.bool false)), h0))))))))) ((binAV E .eql 3 (l1.getD 0 .dead) (.lit (.int .i64 10))).bind fun r61 => (boolOf r61).bind fun b62 => cond b62 ((boolOf r61).bind fun b63 => cond b63 ((binAV E .eql 3 (.lit (.int .i64 n2)) (.lit (.int .i64 1))).bind fun r64 => some (.ret r64, h0)) ((binAV E .eql 3 (l1.getD 0 .dead) (.lit (.int .i64 5))).bind fun r65 => (boolOf r65).bind fun b66 => cond b66 ((boolOf r65).bind fun b67 => cond b67 ((binAV E .eql 3 (.lit (.int .i64 n2)) (.lit (.int .i64 2))).bind fun r68 => some (.ret r68, h0)) ((binAV E .eql 3 (l1.getD 0 .dead) (.lit (.int .i64 6))).bind fun r69 => (boolOf r69).bind fun b70 => cond b70 ((binAV E .eql 3 (.lit (.int .i64 n2)) (.lit (.int .i64 3))).bind fun r71 => some (.ret r71, h0)) ((binAV E .eql 3 (l1.getD 0 .dead) (.lit (.int .i64 9))).bind fun r72 => (boolOf r72).bind fun b73 => cond b73 ((lenA E 31 (l1.getD 8 .dead)).bind fun n74 => (binAV E .eql 3 (.lit (.int .i64 n2)) (.lit (.int .i64 n74))).bind fun r75 => (boolOf r75).bind fun b76 => cond b76 (onOut (F 138 [(l1.getD 8 .dead)] h0) (fun a77 h78 => some (.ret a77, h78)) (fun _ _ _ => none) (fun _ _ => none)) (some (.ret (.lit (.bool false)), h0))) ((binAV E .eql 3 (l1.getD 0 .dead) (.lit (.int .i64 13))).bind fun r79 => (boolOf r79).bind fun b80 => cond b80 ((binAV E .leq 3 (.lit (.int .i64 n2)) (.lit (.int .i64 4))).bind fun r81 => some (.ret r81, h0)) (some (.ret (.lit (.bool false)), h0)))))) ((binAV E .eql 3 (l1.getD 0 .dead) (.lit (.int .i64 8))).bind fun r82 => (boolOf r82).bind fun b83 => cond b83 ((boolOf r82).bind fun b84 => cond b84 ((binAV E .eql 3 (.lit (.int .i64 n2)) (.lit (.int .i64 2))).bind fun r85 => some (.ret r85, h0)) ((binAV E .eql 3 (l1.getD 0 .dead) (.lit (.int .i64 6))).bind fun r86 => (boolOf r86).bind fun b87 => cond b87 ((binAV E .eql 3 (.lit (.int .i64 n2)) (.lit (.int .i64 3))).bind fun r88 => some (.ret r88, h0)) ((binAV E .eql 3 (l1.getD 0 .dead) (.lit (.int .i64 9))).bind fun r89 => (boolOf r89).bind fun b90 => cond b90 ((lenA E 31 (l1.getD 8 .dead)).bind fun n91 => (binAV E .eql 3 (.lit (.int .i64 n2)) (.lit (.int .i64 n91))).bind fun r92 => (boolOf r92).bind fun b93 => cond b93 (onOut (F 138 [(l1.getD 8 .dead)] h0) (fun a94 h95 => some (.ret a94, h95)) (fun _ _ _ => none) (fun _ _ => none)) (some (.ret (.lit (.bool false)), h0))) ((binAV E .eql 3 (l1.getD 0 .dead) (.lit (.int .i64 13))).bind fun r96 => (boolOf r96).bind fun b97 => cond b97 ((binAV E .leq 3 (.lit (.int .i64 n2)) (.lit (.int .i64 4))).bind fun r98 => some (.ret r98, h0)) (some (.ret (.lit (.bool false)), h0)))))) ((binAV E .eql 3 (l1.getD 0 .dead) (.lit (.int .i64 11))).bind fun r99 => (boolOf r99).bind fun b100 => cond b100 ((binAV E .eql 3 (.lit (.int .i64 n2)) (.lit (.int .i64 2))).bind fun r101 => some (.ret r101, h0)) ((binAV E .eql 3 (l1.getD 0 .dead) (.lit (.int .i64 6))).bind fun r102 => (boolOf r102).bind fun b103 => cond b103 ((binAV E .eql 3 (.lit (.int .i64 n2)) (.lit (.int .i64 3))).bind fun r104 => some (.ret r104, h0)) ((binAV E .eql 3 (l1.getD 0 .dead) (.lit (.int .i64 9))).bind fun r105 => (boolOf r105).bind fun b106 => cond b106 ((lenA E 31 (l1.getD 8 .dead)).bind fun n107 => (binAV E .eql 3 (.lit (.int .i64 n2)) (.lit (.int .i64 n107))).bind fun r108 => (boolOf r108).bind fun b109 => cond b109 (onOut (F 138 [(l1.getD 8 .dead)] h0) (fun a110 h111 => some (.ret a110, h111)) (fun _ _ _ => none) (fun _ _ => none)) (some (.ret (.lit (.bool false)), h0))) ((binAV E .eql 3 (l1.getD 0 .dead) (.lit (.int .i64 13))).bind fun r112 => (boolOf r112).bind fun b113 => cond b113 ((binAV E .leq 3 (.lit (.int .i64 n2)) (.lit (.int .i64 4))).bind fun r114 => some (.ret r114, h0)) (some (.ret (.lit (.bool false)), h0))))))))) ((binAV E .eql 3 (l1.getD 0 .dead) (.lit (.int .i64 12))).bind fun r115 => (boolOf r115).bind fun b116 => cond b116 ((binAV E .eql 3 (.lit (.int .i64 n2)) (.lit (.int .i64 1))).bind fun r117 => some (.ret r117, h0)) ((binAV E .eql 3 (l1.getD 0 .dead) (.lit (.int .i64 5))).bind fun r118 => (boolOf r118).bind fun b119 => cond b119 ((boolOf r118).bind fun b120 => cond b120 ((binAV E .eql 3 (.lit (.int .i64 n2)) (.lit (.int .i64 2))).bind fun r121 => some (.ret r121, h0)) ((binAV E .eql 3 (l1.getD 0 .dead) (.lit (.int .i64 6))).bind fun r122 => (boolOf r122).bind fun b123 => cond b123 ((binAV E .eql 3 (.lit (.int .i64 n2)) (.lit (.int .i64 3))).bind fun r124 => some (.ret r124, h0)) ((binAV E .eql 3 (l1.getD 0 .dead) (.lit (.int .i64 9))).bind fun r125 => (boolOf r125).bind fun b126 => cond b126 ((lenA E 31 (l1.getD 8 .dead)).bind fun n127 => (binAV E .eql 3 (.lit (.int .i64 n2)) (.lit (.int .i64 n127))).bind fun r128 => (boolOf r128).bind fun b129 => cond b129 (onOut (F 138 [(l1.getD 8 .dead)] h0) (fun a130 h131 => some (.ret a130, h131)) (fun _ _ _ => none) (fun _ _ => none)) (some (.ret (.lit (.bool false)), h0))) ((binAV E .eql 3 (l1.getD 0 .dead) (.lit (.int .i64 13))).bind fun r132 => (boolOf r132).bind fun b133 => cond b133 ((binAV E .leq 3 (.lit (.int .i64 n2)) (.lit (.int .i64 4))).bind fun r134 => some (.ret r134, h0)) (some (.ret (.lit (.bool false)), h0)))))) ((binAV E .eql 3 (l1.getD 0 .dead) (.lit (.int .i64 8))).bind fun r135 => (boolOf r135).bind fun b136 => cond b136 ((boolOf r135).bind fun b137 => cond b137 ((binAV E .eql 3 (.lit (.int .i64 n2)) (.lit (.int .i64 2))).bind fun r138 => some (.ret r138, h0)) ((binAV E .eql 3 (l1.getD 0 .dead) (.lit (.int .i64 6))).bind fun r139 => (boolOf r139).bind fun b140 => cond b140 ((binAV E .eql 3 (.lit (.int .i64 n2)) (.lit (.int .i64 3))).bind fun r141 => some (.ret r141, h0)) ((binAV E .eql 3 (l1.getD 0 .dead) (.lit (.int .i64 9))).bind fun r142 => (boolOf r142).bind fun b143 => cond b143 ((lenA E 31 (l1.getD 8 .dead)).bind fun n144 => (binAV E .eql 3 (.lit (.int .i64 n2)) (.lit (.int .i64 n144))).bind fun r145 => (boolOf r145).bind fun b146 => cond b146 (onOut (F 138 [(l1.getD 8 .dead)] h0) (fun a147 h148 => some (.ret a147, h148)) (fun _ _ _ => none) (fun _ _ => none)) (some (.ret (.lit (.bool false)), h0))) ((binAV E .eql 3 (l1.getD 0 .dead) (.lit (.int .i64 13))).bind fun r149 => (boolOf r149).bind fun b150 => cond b150 ((binAV E .leq 3 (.lit (.int .i64 n2)) (.lit (.int .i64 4))).bind fun r151 => some (.ret r151, h0)) (some (.ret (.lit (.bool false)), h0)))))) ((binAV E .eql 3 (l1.getD 0 .dead) (.lit (.int .i64 11))).bind fun r152 => (boolOf r152).bind fun b153 => cond b153 ((binAV E .eql 3 (.lit (.int .i64 n2)) (.lit (.int .i64 2))).bind fun r154 => some (.ret r154, h0)) ((binAV E .eql 3 (l1.getD 0 .dead) (.lit (.int .i64 6))).bind fun r155 => (boolOf r155).bind fun b156 => cond b156 ((binAV E .eql 3 (.lit (.int .i64 n2)) (.lit (.int .i64 3))).bind fun r157 => some (.ret r157, h0)) ((binAV E .eql 3 (l1.getD 0 .dead) (.lit (.int .i64 9))).bind fun r158 => (boolOf r158).bind fun b159 => cond b159 ((lenA E 31 (l1.getD 8 .dead)).bind fun n160 => (binAV E .eql 3 (.lit (.int .i64 n2)) (.lit (.int .i64 n160))).bind fun r161 => (boolOf r161).bind fun b162 => cond b162 (onOut (F 138 [(l1.getD 8 .dead)] h0) (fun a163 h164 => some (.ret a163, h164)) (fun _ _ _ => none) (fun _ _ => none)) (some (.ret (.lit (.bool false)), h0))) ((binAV E .eql 3 (l1.getD 0 .dead) (.lit (.int .i64 13))).bind fun r165 => (boolOf r165).bind fun b166 => cond b166 ((binAV E .leq 3 (.lit (.int .i64 n2)) (.lit (.int .i64 4))).bind fun r167 => some (.ret r167, h0)) (some (.ret (.lit (.bool false)), h0)))))))))))) ((binAV E .eql 3 (l1.getD 0 .dead) (.lit (.int .i64 2))).bind fun r168 => (boolOf r168).bind fun b169 => cond b169 ((boolOf r168).bind fun b170 => cond b170 ((binAV E .eql 3 (.lit (.int .i64 n2)) (.lit (.int .i64 0))).bind fun r171 => some (.ret r171, h0)) ((binAV E .eql 3 (l1.getD 0 .dead) (.lit (.int .i64 7))).bind fun r172 => (boolOf r172).bind fun b173 => cond b173 ((boolOf r172).bind fun b174 => cond b174 ((binAV E .eql 3 (.lit (.int .i64 n2)) (.lit (.int .i64 1))).bind fun r175 => some (.ret r175, h0)) ((binAV E .eql 3 (l1.getD 0 .dead) (.lit (.int .i64 5))).bind fun r176 => (boolOf r176).bind fun b177 => cond b177 ((boolOf r176).bind fun b178 => cond b178 ((binAV E .eql 3 (.lit (.int .i64 n2)) (.lit (.int .i64 2))).bind fun r179 => some (.ret r179, h0)) ((binAV E .eql 3 (l1.getD 0 .dead) (.lit (.int .i64 6))).bind fun r180 => (boolOf r180).bind fun b181 => cond b181 ((binAV E .eql 3 (.lit (.int .i64 n2)) (.lit (.int .i64 3))).bind fun r182 => some (.ret r182, h0)) ((binAV E .eql 3 (l1.getD 0 .dead) (.lit (.int .i64 9))).bind fun r183 => (boolOf r183).bind fun b184 => cond b184 ((lenA E 31 (l1.getD 8 .dead)).bind fun n185 => (binAV E .eql 3 (.lit (.int .i64 n2)) (.lit (.int .i64 n185))).bind fun r186 => (boolOf r186).bind fun b187 => cond b187 (onOut (F 138 [(l1.getD 8 .dead)] h0) (fun a188 h189 => some (.ret a188, h189)) (fun _ _ _ => none) (fun _ _ => none)) (some (.ret (.lit (.bool false)), h0))) ((binAV E .eql 3 (l1.getD 0 .dead) (.lit (.int .i64 13))).bind fun r190 => (boolOf r190).bind fun b191 => cond b191 ((binAV E .leq 3 (.lit (.int .i64 n2)) (.lit (.int .i64 4))).bind fun r192 => some (.ret r192, h0)) (some (.ret (.lit (.bool false)), h0)))))) ((binAV E .eql 3 (l1.getD 0 .dead) (.lit (.int .i64 8))).bind fun r193 => (boolOf r193).bind fun b194 => cond b194 ((boolOf r193).bind fun b195 => cond b195 ((binAV E .eql 3 (.lit (.int .i64 n2)) (.lit (.int .i64 2))).bind fun r196 => some (.ret r196, h0)) ((binAV E .eql 3 (l1.getD 0 .dead) (.lit (.int .i64 6))).bind fun r197 => (boolOf r197).bind fun b198 => cond b198 ((binAV E .eql 3 (.lit (.int .i64 n2)) (.lit (.int .i64 3))).bind fun r199 => some (.ret r199, h0)) ((binAV E .eql 3 (l1.getD 0 .dead) (.lit (.int .i64 9))).bind fun r200 => (boolOf r200).bind fun b201 => cond b201 ((lenA E 31 (l1.getD 8 .dead)).bind fun n202 => (binAV E .eql 3 (.lit (.int .i64 n2)) (.lit (.int .i64 n202))).bind fun r203 => (boolOf r203).bind fun b204 => cond b204 (onOut (F 138 [(l1.getD 8 .dead)] h0) (fun a205 h206 => some (.ret a205, h206)) (fun _ _ _ => none) (fun _ _ => none)) (some (.ret (.lit (.bool false)), h0))) ((binAV E .eql 3 (l1.getD 0 .dead) (.lit (.int .i64 13))).bind fun r207 => (boolOf r207).bind fun b208 => cond b208 ((binAV E .leq 3 (.lit (.int .i64 n2)) (.lit (.int .i64 4))).bind fun r209 => some (.ret r209, h0)) (some (.ret (.lit (.bool false)), h0)))))) ((binAV E .eql 3 (l1.getD 0 .dead) (.lit (.int .i64 11))).bind fun r210 => (boolOf r210).bind fun b211 => cond b211 ((binAV E .eql 3 (.lit (.int .i64 n2)) (.lit (.int .i64 2))).bind fun r212 => some (.ret r212, h0)) ((binAV E .eql 3 (l1.getD 0 .dead) (.lit (.int .i64 6))).bind fun r213 => (boolOf r213).bind fun b214 => cond b214 ((binAV E .eql 3 (.lit (.int .i64 n2)) (.lit (.int .i64 3))).bind fun r215 => some (.ret r215, h0)) ((binAV E .eql 3 (l1.getD 0 .dead) (.lit (.int .i64 9))).bind fun r216 => (boolOf r216).bind fun b217 => cond b217 ((lenA E 31 (l1.getD 8 .dead)).bind fun n218 => (binAV E .eql 3 (.lit (.int .i64 n2)) (.lit (.int .i64 n218))).bind fun r219 => (boolOf r219).bind fun b220 => cond b220 (onOut (F 138 [(l1.getD 8 .dead)] h0) (fun a221 h222 => some (.ret a221, h222)) (fun _ _ _ => none) (fun _ _ => none)) (some (.ret (.lit (.bool false)), h0))) ((binAV E .eql 3 (l1.getD 0 .dead) (.lit (.int .i64 13))).bind fun r223 => (boolOf r223).bind fun b224 => cond b224 ((binAV E .leq 3 (.lit (.int .i64 n2)) (.lit (.int .i64 4))).bind fun r225 => some (.ret r225, h0)) (some (.ret (.lit (.bool false)), h0))))))))) ((binAV E .eql 3 (l1.getD 0 .dead) (.lit (.int .i64 10))).bind fun r226 => (boolOf r226).bind fun b227 => cond b227 ((boolOf r226).bind fun b228 => cond b228 ((binAV E .eql 3 (.lit (.int .i64 n2)) (.lit (.int .i64 1))).bind fun r229 => some (.ret r229, h0)) ((binAV E .eql 3 (l1.getD 0 .dead) (.lit (.int .i64 5))).bind fun r230 => (boolOf r230).bind fun b231 => cond b231 ((boolOf r230).bind fun b232 => cond b232 ((binAV E .eql 3 (.lit (.int .i64 n2)) (.lit (.int .i64 2))).bind fun r233 => some (.ret r233, h0)) ((binAV E .eql 3 (l1.getD 0 .dead) (.lit (.int .i64 6))).bind fun r234 => (boolOf r234).bind fun b235 => cond b235 ((binAV E .eql 3 (.lit (.int .i64 n2)) (.lit (.int .i64 3))).bind fun r236 => some (.ret r236, h0)) ((binAV E .eql 3 (l1.getD 0 .dead) (.lit (.int .i64 9))).bind fun r237 => (boolOf r237).bind fun b238 => cond b238 ((lenA E 31 (l1.getD 8 .dead)).bind fun n239 => (binAV E .eql 3 (.lit (.int .i64 n2)) (.lit (.int .i64 n239))).bind fun r240 => (boolOf r240).bind fun b241 => cond b241 (onOut (F 138 [(l1.getD 8 .dead)] h0) (fun a242 h243 => some (.ret a242, h243)) (fun _ _ _ => none) (fun _ _ => none)) (some (.ret (.lit (.bool false)), h0))) ((binAV E .eql 3 (l1.getD 0 .dead) (.lit (.int .i64 13))).bind fun r244 => (boolOf r244).bind fun b245 => cond b245 ((binAV E .leq 3 (.lit (.int .i64 n2)) (.lit (.int .i64 4))).bind fun r246 => some (.ret r246, h0)) (some (.ret (.lit (.bool false)), h0)))))) ((binAV E .eql 3 (l1.getD 0 .dead) (.lit (.int .i64 8))).bind fun r247 => (boolOf r247).bind fun b248 => cond b248 ((boolOf r247).bind fun b249 => cond b249 ((binAV E .eql 3 (.lit (.int .i64 n2)) (.lit (.int .i64 2))).bind fun r250 => some (.ret r250, h0)) ((binAV E .eql 3 (l1.getD 0 .dead) (.lit (.int .i64 6))).bind fun r251 => (boolOf r251).bind fun b252 => cond b252 ((binAV E .eql 3 (.lit (.int .i64 n2)) (.lit (.int .i64 3))).bind fun r253 => some (.ret r253, h0)) ((binAV E .eql 3 (l1.getD 0 .dead) (.lit (.int .i64 9))).bind fun r254 => (boolOf r254).bind fun b255 => cond b255 ((lenA E 31 (l1.getD 8 .dead)).bind fun n256 => (binAV E .eql 3 (.lit (.int .i64 n2)) (.lit (.int .i64 n256))).bind fun r257 => (boolOf r257).bind fun b258 => cond b258 (onOut (F 138 [(l1.getD 8 .dead)] h0) (fun a259 h260 => some (.ret a259, h260)) (fun _ _ _ => none) (fun _ _ => none)) (some (.ret (.lit (.bool false)), h0))) ((binAV E .eql 3 (l1.getD 0 .dead) (.lit (.int .i64 13))).bind fun r261 => (boolOf r261).bind fun b262 => cond b262 ((binAV E .leq 3 (.lit (.int .i64 n2)) (.lit (.int .i64 4))).bind fun r263 => some (.ret r263, h0)) (some (.ret (.lit (.bool false)), h0)))))) ((binAV E .eql 3 (l1.getD 0 .dead) (.lit (.int .i64 11))).bind fun r264 => (boolOf r264).bind fun b265 => cond b265 ((binAV E .eql 3 (.lit (.int .i64 n2)) (.lit (.int .i64 2))).bind fun r266 => some (.ret r266, h0)) ((binAV E .eql 3 (l1.getD 0 .dead) (.lit (.int .i64 6))).bind fun r267 => (boolOf r267).bind fun b268 => cond b268 ((binAV E .eql 3 (.lit (.int .i64 n2)) (.lit (.int .i64 3))).bind fun r269 => some (.ret r269, h0)) ((binAV E .eql 3 (l1.getD 0 .dead) (.lit (.int .i64 9))).bind fun r270 => (boolOf r270).bind fun b271 => cond b271 ((lenA E 31 (l1.getD 8 .dead)).bind fun n272 => (binAV E .eql 3 (.lit (.int .i64 n2)) (.lit (.int .i64 n272))).bind fun r273 => (boolOf r273).bind fun b274 => cond b274 (onOut (F 138 [(l1.getD 8 .dead)] h0) (fun a275 h276 => some (.ret a275, h276)) (fun _ _ _ => none) (fun _ _ => none)) (some (.ret (.lit (.bool false)), h0))) ((binAV E .eql 3 (l1.getD 0 .dead) (.lit (.int .i64 13))).bind fun r277 => (boolOf r277).bind fun b278 => cond b278 ((binAV E .leq 3 (.lit (.int .i64 n2)) (.lit (.int .i64 4))).bind fun r279 => some (.ret r279, h0)) (some (.ret (.lit (.bool false)), h0))))))))) ((binAV E .eql 3 (l1.getD 0 .dead) (.lit (.int .i64 12))).bind fun r280 => (boolOf r280).bind fun b281 => cond b281 ((binAV E .eql 3 (.lit (.int .i64 n2)) (.lit (.int .i64 1))).bind fun r282 => some (.ret r282, h0)) ((binAV E .eql 3 (l1.getD 0 .dead) (.lit (.int .i64 5))).bind fun r283 => (boolOf r283).bind fun b284 => cond b284 ((boolOf r283).bind fun b285 => cond b285 ((binAV E .eql 3 (.lit (.int .i64 n2)) (.lit (.int .i64 2))).bind fun r286 => some (.ret r286, h0)) ((binAV E .eql 3 (l1.getD 0 .dead) (.lit (.int .i64 6))).bind fun r287 => (boolOf r287).bind fun b288 => cond b288 ((binAV E .eql 3 (.lit (.int .i64 n2)) (.lit (.int .i64 3))).bind fun r289 => some (.ret r289, h0)) ((binAV E .eql 3 (l1.getD 0 .dead) (.lit (.int .i64 9))).bind fun r290 => (boolOf r290).bind fun b291 => cond b291 ((lenA E 31 (l1.getD 8 .dead)).bind fun n292 => (binAV E .eql 3 (.lit (.int .i64 n2)) (.lit (.int .i64 n292))).bind fun r293 => (boolOf r293).bind fun b294 => cond b294 (onOut (F 138 [(l1.getD 8 .dead)] h0) (fun a295 h296 => some (.ret a295, h296)) (fun _ _ _ => none) (fun _ _ => none)) (some (.ret (.lit (.bool false)), h0))) ((binAV E .eql 3 (l1.getD 0 .dead) (.lit (.int .i64 13))).bind fun r297 => (boolOf r297).bind fun b298 => cond b298 ((binAV E .leq 3 (.lit (.int .i64 n2)) (.lit (.int .i64 4))).bind fun r299 => some (.ret r299, h0)) (some (.ret (.lit (.bool false)), h0)))))) ((binAV E .eql 3 (l1.getD 0 .dead) (.lit (.int .i64 8))).bind fun r300 => (boolOf r300).bind fun b301 => cond b301 ((boolOf r300).bind fun b302 => cond b302 ((binAV E .eql 3 (.lit (.int .i64 n2)) (.lit (.int .i64 2))).bind fun r303 => some (.ret r303, h0)) ((binAV E .eql 3 (l1.getD 0 .dead) (.lit (.int .i64 6))).bind fun r304 => (boolOf r304).bind fun b305 => cond b305 ((binAV E .eql 3 (.lit (.int .i64 n2)) (.lit (.int .i64 3))).bind fun r306 => some (.ret r306, h0)) ((binAV E .eql 3 (l1.getD 0 .dead) (.lit (.int .i64 9))).bind fun r307 => (boolOf r307).bind fun b308 => cond b308 ((lenA E 31 (l1.getD 8 .dead)).bind fun n309 => (binAV E .eql 3 (.lit (.int .i64 n2)) (.lit (.int .i64 n309))).bind fun r310 => (boolOf r310).bind fun b311 => cond b311 (onOut (F 138 [(l1.getD 8 .dead)] h0) (fun a312 h313 => some (.ret a312, h313)) (fun _ _ _ => none) (fun _ _ => none)) (some (.ret (.lit (.bool false)), h0))) ((binAV E .eql 3 (l1.getD 0 .dead) (.lit (.int .i64 13))).bind fun r314 => (boolOf r314).bind fun b315 => cond b315 ((binAV E .leq 3 (.lit (.int .i64 n2)) (.lit (.int .i64 4))).bind fun r316 => some (.ret r316, h0)) (some (.ret (.lit (.bool false)), h0)))))) ((binAV E .eql 3 (l1.getD 0 .dead) (.lit (.int .i64 11))).bind fun r317 => (boolOf r317).bind fun b318 => cond b318 ((binAV E .eql 3 (.lit (.int .i64 n2)) (.lit (.int .i64 2))).bind fun r319 => some (.ret r319, h0)) ((binAV E .eql 3 (l1.getD 0 .dead) (.lit (.int .i64 6))).bind fun r320 => (boolOf r320).bind fun b321 => cond b321 ((binAV E .eql 3 (.lit (.int .i64 n2)) (.lit (.int .i64 3))).bind fun r322 => some (.ret r322, h0)) ((binAV E .eql 3 (l1.getD 0 .dead) (.lit (.int .i64 9))).bind fun r323 => (boolOf r323).bind fun b324 => cond b324 ((lenA E 31 (l1.getD 8 .dead)).bind fun n325 => (binAV E .eql 3 (.lit (.int .i64 n2)) (.lit (.int .i64 n325))).bind fun r326 => (boolOf r326).bind fun b327 => cond b327 (onOut (F 138 [(l1.getD 8 .dead)] h0) (fun a328 h329 => some (.ret a328, h329)) (fun _ _ _ => none) (fun _ _ => none)) (some (.ret (.lit (.bool false)), h0))) ((binAV E .eql 3 (l1.getD 0 .dead) (.lit (.int .i64 13))).bind fun r330 => (boolOf r330).bind fun b331 => cond b331 ((binAV E .leq 3 (.lit (.int .i64 n2)) (.lit (.int .i64 4))).bind fun r332 => some (.ret r332, h0)) (some (.ret (.lit (.bool false)), h0)))))))))))) ((binAV E .eql 3 (l1.getD 0 .dead) (.lit (.int .i64 3))).bind fun r333 => (boolOf r333).bind fun b334 => cond b334 ((boolOf r333).bind fun b335 => cond b335 ((binAV E .eql 3 (.lit (.int .i64 n2)) (.lit (.int .i64 0))).bind fun r336 => some (.ret r336, h0)) ((binAV E .eql 3 (l1.getD 0 .dead) (.lit (.int .i64 7))).bind fun r337 => (boolOf r337).bind fun b338 => cond b338 ((boolOf r337).bind fun b339 => cond b339 ((binAV E .eql 3 (.lit (.int .i64 n2)) (.lit (.int .i64 1))).bind fun r340 => some (.ret r340, h0)) ((binAV E .eql 3 (l1.getD 0 .dead) (.lit (.int .i64 5))).bind fun r341 => (boolOf r341).bind fun b342 => cond b342 ((boolOf r341).bind fun b343 => cond b343 ((binAV E .eql 3 (.lit (.int .i64 n2)) (.lit (.int .i64 2))).bind fun r344 => some (.ret r344, h0)) ((binAV E .eql 3 (l1.getD 0 .dead) (.lit (.int .i64 6))).bind fun r345 => (boolOf r345).bind fun b346 => cond b346 ((binAV E .eql 3 (.lit (.int .i64 n2)) (.lit (.int .i64 3))).bind fun r347 => some (.ret r347, h0)) ((binAV E .eql 3 (l1.getD 0 .dead) (.lit (.int .i64 9))).bind fun r348 => (boolOf r348).bind fun b349 => cond b349 ((lenA E 31 (l1.getD 8 .dead)).bind fun n350 => (binAV E .eql 3 (.lit (.int .i64 n2)) (.lit (.int .i64 n350))).bind fun r351 => (boolOf r351).bind fun b352 => cond b352 (onOut (F 138 [(l1.getD 8 .dead)] h0) (fun a353 h354 => some (.ret a353, h354)) (fun _ _ _ => none) (fun _ _ => none)) (some (.ret (.lit (.bool false)), h0))) ((binAV E .eql 3 (l1.getD 0 .dead) (.lit (.int .i64 13))).bind fun r355 => (boolOf r355).bind fun b356 => cond b356 ((binAV E .leq 3 (.lit (.int .i64 n2)) (.lit (.int .i64 4))).bind fun r357 => some (.ret r357, h0)) (some (.ret (.lit (.bool false)), h0)))))) ((binAV E .eql 3 (l1.getD 0 .dead) (.lit (.int .i64 8))).bind fun r358 => (boolOf r358).bind fun b359 => cond b359 ((boolOf r358).bind fun b360 => cond b360 ((binAV E .eql 3 (.lit (.int .i64 n2)) (.lit (.int .i64 2))).bind fun r361 => some (.ret r361, h0)) ((binAV E .eql 3 (l1.getD 0 .dead) (.lit (.int .i64 6))).bind fun r362 => (boolOf r362).bind fun b363 => cond b363 ((binAV E .eql 3 (.lit (.int .i64 n2)) (.lit (.int .i64 3))).bind fun r364 => some (.ret r364, h0)) ((binAV E .eql 3 (l1.getD 0 .dead) (.lit (.int .i64 9))).bind fun r365 => (boolOf r365).bind fun b366 => cond b366 ((lenA E 31 (l1.getD 8 .dead)).bind fun n367 => (binAV E .eql 3 (.lit (.int .i64 n2)) (.lit (.int .i64 n367))).bind fun r368 => (boolOf r368).bind fun b369 => cond b369 (onOut (F 138 [(l1.getD 8 .dead)] h0) (fun a370 h371 => some (.ret a370, h371)) (fun _ _ _ => none) (fun _ _ => none)) (some (.ret (.lit (.bool false)), h0))) ((binAV E .eql 3 (l1.getD 0 .dead) (.lit (.int .i64 13))).bind fun r372 => (boolOf r372).bind fun b373 => cond b373 ((binAV E .leq 3 (.lit (.int .i64 n2)) (.lit (.int .i64 4))).bind fun r374 => some (.ret r374, h0)) (some (.ret (.lit (.bool false)), h0)))))) ((binAV E .eql 3 (l1.getD 0 .dead) (.lit (.int .i64 11))).bind fun r375 => (boolOf r375).bind fun b376 => cond b376 ((binAV E .eql 3 (.lit (.int .i64 n2)) (.lit (.int .i64 2))).bind fun r377 => some (.ret r377, h0)) ((binAV E .eql 3 (l1.getD 0 .dead) (.lit (.int .i64 6))).bind fun r378 => (boolOf r378).bind fun b379 => cond b379 ((binAV E .eql 3 (.lit (.int .i64 n2)) (.lit (.int .i64 3))).bind fun r380 => some (.ret r380, h0)) ((binAV E .eql 3 (l1.getD 0 .dead) (.lit (.int .i64 9))).bind fun r381 => (boolOf r381).bind fun b382 => cond b382 ((lenA E 31 (l1.getD 8 .dead)).bind fun n383 => (binAV E .eql 3 (.lit (.int .i64 n2)) (.lit (.int .i64 n383))).bind fun r384 => (boolOf r384).bind fun b385 => cond b385 (onOut (F 138 [(l1.getD 8 .dead)] h0) (fun a386 h387 => some (.ret a386, h387)) (fun _ _ _ => none) (fun _ _ => none)) (some (.ret (.lit (.bool false)), h0))) ((binAV E .eql 3 (l1.getD 0 .dead) (.lit (.int .i64 13))).bind fun r388 => (boolOf r388).bind fun b389 => cond b389 ((binAV E .leq 3 (.lit (.int .i64 n2)) (.lit (.int .i64 4))).bind fun r390 => some (.ret r390, h0)) (some (.ret (.lit (.bool false)), h0))))))))) ((binAV E .eql 3 (l1.getD 0 .dead) (.lit (.int .i64 10))).bind fun r391 => (boolOf r391).bind fun b392 => cond b392 ((boolOf r391).bind fun b393 => cond b393 ((binAV E .eql 3 (.lit (.int .i64 n2)) (.lit (.int .i64 1))).bind fun r394 => some (.ret r394, h0)) ((binAV E .eql 3 (l1.getD 0 .dead) (.lit (.int .i64 5))).bind fun r395 => (boolOf r395).bind fun b396 => cond b396 ((boolOf r395).bind fun b397 => cond b397 ((binAV E .eql 3 (.lit (.int .i64 n2)) (.lit (.int .i64 2))).bind fun r398 => some (.ret r398, h0)) ((binAV E .eql 3 (l1.getD 0 .dead) (.lit (.int .i64 6))).bind fun r399 => (boolOf r399).bind fun b400 => cond b400 ((binAV E .eql 3 (.lit (.int .i64 n2)) (.lit (.int .i64 3))).bind fun r401 => some (.ret r401, h0)) ((binAV E .eql 3 (l1.getD 0 .dead) (.lit (.int .i64 9))).bind fun r402 => (boolOf r402).bind fun b403 => cond b403 ((lenA E 31 (l1.getD 8 .dead)).bind fun n404 => (binAV E .eql 3 (.lit (.int .i64 n2)) (.lit (.int .i64 n404))).bind fun r405 => (boolOf r405).bind fun b406 => cond b406 (onOut (F 138 [(l1.getD 8 .dead)] h0) (fun a407 h408 => some (.ret a407, h408)) (fun _ _ _ => none) (fun _ _ => none)) (some (.ret (.lit (.bool false)), h0))) ((binAV E .eql 3 (l1.getD 0 .dead) (.lit (.int .i64 13))).bind fun r409 => (boolOf r409).bind fun b410 => cond b410 ((binAV E .leq 3 (.lit (.int .i64 n2)) (.lit (.int .i64 4))).bind fun r411 => some (.ret r411, h0)) (some (.ret (.lit (.bool false)), h0)))))) ((binAV E .eql 3 (l1.getD 0 .dead) (.lit (.int .i64 8))).bind fun r412 => (boolOf r412).bind fun b413 => cond b413 ((boolOf r412).bind fun b414 => cond b414 ((binAV E .eql 3 (.lit (.int .i64 n2)) (.lit (.int .i64 2))).bind fun r415 => some (.ret r415, h0)) ((binAV E .eql 3 (l1.getD 0 .dead) (.lit (.int .i64 6))).bind fun r416 => (boolOf r416).bind fun b417 => cond b417 ((binAV E .eql 3 (.lit (.int .i64 n2)) (.lit (.int .i64 3))).bind fun r418 => some (.ret r418, h0)) ((binAV E .eql 3 (l1.getD 0 .dead) (.lit (.int .i64 9))).bind fun r419 => (boolOf r419).bind fun b420 => cond b420 ((lenA E 31 (l1.getD 8 .dead)).bind fun n421 => (binAV E .eql 3 (.lit (.int .i64 n2)) (.lit (.int .i64 n421))).bind fun r422 => (boolOf r422).bind fun b423 => cond b423 (onOut (F 138 [(l1.getD 8 .dead)] h0) (fun a424 h425 => some (.ret a424, h425)) (fun _ _ _ => none) (fun _ _ => none)) (some (.ret (.lit (.bool false)), h0))) ((binAV E .eql 3 (l1.getD 0 .dead) (.lit (.int .i64 13))).bind fun r426 => (boolOf r426).bind fun b427 => cond b427 ((binAV E .leq 3 (.lit (.int .i64 n2)) (.lit (.int .i64 4))).bind fun r428 => some (.ret r428, h0)) (some (.ret (.lit (.bool false)), h0)))))) ((binAV E .eql 3 (l1.getD 0 .dead) (.lit (.int .i64 11))).bind fun r429 => (boolOf r429).bind fun b430 => cond b430 ((binAV E .eql 3 (.lit (.int .i64 n2)) (.lit (.int .i64 2))).bind fun r431 => some (.ret r431, h0)) ((binAV E .eql 3 (l1.getD 0 .dead) (.lit (.int .i64 6))).bind fun r432 => (boolOf r432).bind fun b433 => cond b433 ((binAV E .eql 3 (.lit (.int .i64 n2)) (.lit (.int .i64 3))).bind fun r434 => some (.ret r434, h0)) ((binAV E .eql 3 (l1.getD 0 .dead) (.lit (.int .i64 9))).bind fun r435 => (boolOf r435).bind fun b436 => cond b436 ((lenA E 31 (l1.getD 8 .dead)).bind fun n437 => (binAV E .eql 3 (.lit (.int .i64 n2)) (.lit (.int .i64 n437))).bind fun r438 => (boolOf r438).bind fun b439 => cond b439 (onOut (F 138 [(l1.getD 8 .dead)] h0) (fun a440 h441 => some (.ret a440, h441)) (fun _ _ _ => none) (fun _ _ => none)) (some (.ret (.lit (.bool false)), h0))) ((binAV E .eql 3 (l1.getD 0 .dead) (.lit (.int .i64 13))).bind fun r442 => (boolOf r442).bind fun b443 => cond b443 ((binAV E .leq 3 (.lit (.int .i64 n2)) (.lit (.int .i64 4))).bind fun r444 => some (.ret r444, h0)) (some (.ret (.lit (.bool false)), h0))))))))) ((binAV E .eql 3 (l1.getD 0 .dead) (.lit (.int .i64 12))).bind fun r445 => (boolOf r445).bind fun b446 => cond b446 ((binAV E .eql 3 (.lit (.int .i64 n2)) (.lit (.int .i64 1))).bind fun r447 => some (.ret r447, h0)) ((binAV E .eql 3 (l1.getD 0 .dead) (.lit (.int .i64 5))).bind fun r448 => (boolOf r448).bind fun b449 => cond b449 ((boolOf r448).bind fun b450 => cond b450 ((binAV E .eql 3 (.lit (.int .i64 n2)) (.lit (.int .i64 2))).bind fun r451 => some (.ret r451, h0)) ((binAV E .eql 3 (l1.getD 0 .dead) (.lit (.int .i64 6))).bind fun r452 => (boolOf r452).bind fun b453 => cond b453 ((binAV E .eql 3 (.lit (.int .i64 n2)) (.lit (.int .i64 3))).bind fun r454 => some (.ret r454, h0)) ((binAV E .eql 3 (l1.getD 0 .dead) (.lit (.int .i64 9))).bind fun r455 => (boolOf r455).bind fun b456 => cond b456 ((lenA E 31 (l1.getD 8 .dead)).bind fun n457 => (binAV E .eql 3 (.lit (.int .i64 n2)) (.lit (.int .i64 n457))).bind fun r458 => (boolOf r458).bind fun b459 => cond b459 (onOut (F 138 [(l1.getD 8 .dead)] h0) (fun a460 h461 => some (.ret a460, h461)) (fun _ _ _ => none) (fun _ _ => none)) (some (.ret (.lit (.bool false)), h0))) ((binAV E .eql 3 (l1.getD 0 .dead) (.lit (.int .i64 13))).bind fun r462 => (boolOf r462).bind fun b463 => cond b463 ((binAV E .leq 3 (.lit (.int .i64 n2)) (.lit (.int .i64 4))).bind fun r464 => some (.ret r464, h0)) (some (.ret (.lit (.bool false)), h0)))))) ((binAV E .eql 3 (l1.getD 0 .dead) (.lit (.int .i64 8))).bind fun r465 => (boolOf r465).bind fun b466 => cond b466 ((boolOf r465).bind fun b467 => cond b467 ((binAV E .eql 3 (.lit (.int .i64 n2)) (.lit (.int .i64 2))).bind fun r468 => some (.ret r468, h0)) ((binAV E .eql 3 (l1.getD 0 .dead) (.lit (.int .i64 6))).bind fun r469 => (boolOf r469).bind fun b470 => cond b470 ((binAV E .eql 3 (.lit (.int .i64 n2)) (.lit (.int .i64 3))).bind fun r471 => some (.ret r471, h0)) ((binAV E .eql 3 (l1.getD 0 .dead) (.lit (.int .i64 9))).bind fun r472 => (boolOf r472).bind fun b473 => cond b473 ((lenA E 31 (l1.getD 8 .dead)).bind fun n474 => (binAV E .eql 3 (.lit (.int .i64 n2)) (.lit (.int .i64 n474))).bind fun r475 => (boolOf r475).bind fun b476 => cond b476 (onOut (F 138 [(l1.getD 8 .dead)] h0) (fun a477 h478 => some (.ret a477, h478)) (fun _ _ _ => none) (fun _ _ => none)) (some (.ret (.lit (.bool false)), h0))) ((binAV E .eql 3 (l1.getD 0 .dead) (.lit (.int .i64 13))).bind fun r479 => (boolOf r479).bind fun b480 => cond b480 ((binAV E .leq 3 (.lit (.int .i64 n2)) (.lit (.int .i64 4))).bind fun r481 => some (.ret r481, h0)) (some (.ret (.lit (.bool false)), h0)))))) ((binAV E .eql 3 (l1.getD 0 .dead) (.lit (.int .i64 11))).bind fun r482 => (boolOf r482).bind fun b483 => cond b483 ((binAV E .eql 3 (.lit (.int .i64 n2)) (.lit (.int .i64 2))).bind fun r484 => some (.ret r484, h0)) ((binAV E .eql 3 (l1.getD 0 .dead) (.lit (.int .i64 6))).bind fun r485 => (boolOf r485).bind fun b486 => cond b486 ((binAV E .eql 3 (.lit (.int .i64 n2)) (.lit (.int .i64 3))).bind fun r487 => some (.ret r487, h0)) ((binAV E .eql 3 (l1.getD 0 .dead) (.lit (.int .i64 9))).bind fun r488 => (boolOf r488).bind fun b489 => cond b489 ((lenA E 31 (l1.getD 8 .dead)).bind fun n490 => (binAV E .eql 3 (.lit (.int .i64 n2)) (.lit (.int .i64 n490))).bind fun r491 => (boolOf r491).bind fun b492 => cond b492 (onOut (F 138 [(l1.getD 8 .dead)] h0) (fun a493 h494 => some (.ret a493, h494)) (fun _ _ _ => none) (fun _ _ => none)) (some (.ret (.lit (.bool false)), h0))) ((binAV E .eql 3 (l1.getD 0 .dead) (.lit (.int .i64 13))).bind fun r495 => (boolOf r495).bind fun b496 => cond b496 ((binAV E .leq 3 (.lit (.int .i64 n2)) (.lit (.int .i64 4))).bind fun r497 => some (.ret r497, h0)) (some (.ret (.lit (.bool false)), h0)))))))))))) ((binAV E .eql 3 (l1.getD 0 .dead) (.lit (.int .i64 4))).bind fun r498 => (boolOf r498).bind fun b499 => cond b499 ((binAV E .eql 3 (.lit (.int .i64 n2)) (.lit (.int .i64 0))).bind fun r500 => some (.ret r500, h0)) ((binAV E .eql 3 (l1.getD 0 .dead) (.lit (.int .i64 7))).bind fun r501 => (boolOf r501).bind fun b502 => cond b502 ((boolOf r501).bind fun b503 => cond b503 ((binAV E .eql 3 (.lit (.int .i64 n2)) (.lit (.int .i64 1))).bind fun r504 => some (.ret r504, h0)) ((binAV E .eql 3 (l1.getD 0 .dead) (.lit (.int .i64 5))).bind fun r505 => (boolOf r505).bind fun b506 => cond b506 ((boolOf r505).bind fun b507 => cond b507 ((binAV E .eql 3 (.lit (.int .i64 n2)) (.lit (.int .i64 2))).bind fun r508 => some (.ret r508, h0)) ((binAV E .eql 3 (l1.getD 0 .dead) (.lit (.int .i64 6))).bind fun r509 => (boolOf r509).bind fun b510 => cond b510 ((binAV E .eql 3 (.lit (.int .i64 n2)) (.lit (.int .i64 3))).bind fun r511 => some (.ret r511, h0)) ((binAV E .eql 3 (l1.getD 0 .dead) (.lit (.int .i64 9))).bind fun r512 => (boolOf r512).bind fun b513 => cond b513 ((lenA E 31 (l1.getD 8 .dead)).bind fun n514 => (binAV E .eql 3 (.lit (.int .i64 n2)) (.lit (.int .i64 n514))).bind fun r515 => (boolOf r515).bind fun b516 => cond b516 (onOut (F 138 [(l1.getD 8 .dead)] h0) (fun a517 h518 => some (.ret a517, h518)) (fun _ _ _ => none) (fun _ _ => none)) (some (.ret (.lit (.bool false)), h0))) ((binAV E .eql 3 (l1.getD 0 .dead) (.lit (.int .i64 13))).bind fun r519 => (boolOf r519).bind fun b520 => cond b520 ((binAV E .leq 3 (.lit (.int .i64 n2)) (.lit (.int .i64 4))).bind fun r521 => some (.ret r521, h0)) (some (.ret (.lit (.bool false)), h0)))))) ((binAV E .eql 3 (l1.getD 0 .dead) (.lit (.int .i64 8))).bind fun r522 => (boolOf r522).bind fun b523 => cond b523 ((boolOf r522).bind fun b524 => cond b524 ((binAV E .eql 3 (.lit (.int .i64 n2)) (.lit (.int .i64 2))).bind fun r525 => some (.ret r525, h0)) ((binAV E .eql 3 (l1.getD 0 .dead) (.lit (.int .i64 6))).bind fun r526 => (boolOf r526).bind fun b527 => cond b527 ((binAV E .eql 3 (.lit (.int .i64 n2)) (.lit (.int .i64 3))).bind fun r528 => some (.ret r528, h0)) ((binAV E .eql 3 (l1.getD 0 .dead) (.lit (.int .i64 9))).bind fun r529 => (boolOf r529).bind fun b530 => cond b530 ((lenA E 31 (l1.getD 8 .dead)).bind fun n531 => (binAV E .eql 3 (.lit (.int .i64 n2)) (.lit (.int .i64 n531))).bind fun r532 => (boolOf r532).bind fun b533 => cond b533 (onOut (F 138 [(l1.getD 8 .dead)] h0) (fun a534 h535 => some (.ret a534, h535)) (fun _ _ _ => none) (fun _ _ => none)) (some (.ret (.lit (.bool false)), h0))) ((binAV E .eql 3 (l1.getD 0 .dead) (.lit (.int .i64 13))).bind fun r536 => (boolOf r536).bind fun b537 => cond b537 ((binAV E .leq 3 (.lit (.int .i64 n2)) (.lit (.int .i64 4))).bind fun r538 => some (.ret r538, h0)) (some (.ret (.lit (.bool false)), h0)))))) ((binAV E .eql 3 (l1.getD 0 .dead) (.lit (.int .i64 11))).bind fun r539 => (boolOf r539).bind fun b540 => cond b540 ((binAV E .eql 3 (.lit (.int .i64 n2)) (.lit (.int .i64 2))).bind fun r541 => some (.ret r541, h0)) ((binAV E .eql 3 (l1.getD 0 .dead) (.lit (.int .i64 6))).bind fun r542 => (boolOf r542).bind fun b543 => cond b543 ((binAV E .eql 3 (.lit (.int .i64 n2)) (.lit (.int .i64 3))).bind fun r544 => some (.ret r544, h0)) ((binAV E .eql 3 (l1.getD 0 .dead) (.lit (.int .i64 9))).bind fun r545 => (boolOf r545).bind fun b546 => cond b546 ((lenA E 31 (l1.getD 8 .dead)).bind fun n547 => (binAV E .eql 3 (.lit (.int .i64 n2)) (.lit (.int .i64 n547))).bind fun r548 => (boolOf r548).bind fun b549 => cond b549 (onOut (F 138 [(l1.getD 8 .dead)] h0) (fun a550 h551 => some (.ret a550, h551)) (fun _ _ _ => none) (fun _ _ => none)) (some (.ret (.lit (.bool false)), h0))) ((binAV E .eql 3 (l1.getD 0 .dead) (.lit (.int .i64 13))).bind fun r552 => (boolOf r552).bind fun b553 => cond b553 ((binAV E .leq 3 (.lit (.int .i64 n2)) (.lit (.int .i64 4))).bind fun r554 => some (.ret r554, h0)) (some (.ret (.lit (.bool false)), h0))))))))) ((binAV E .eql 3 (l1.getD 0 .dead) (.lit (.int .i64 10))).bind fun r555 => (boolOf r555).bind fun b556 => cond b556 ((boolOf r555).bind fun b557 => cond b557 ((binAV E .eql 3 (.lit (.int .i64 n2)) (.lit (.int .i64 1))).bind fun r558 => some (.ret r558, h0)) ((binAV E .eql 3 (l1.getD 0 .dead) (.lit (.int .i64 5))).bind fun r559 => (boolOf r559).bind fun b560 => cond b560 ((boolOf r559).bind fun b561 => cond b561 ((binAV E .eql 3 (.lit (.int .i64 n2)) (.lit (.int .i64 2))).bind fun r562 => some (.ret r562, h0)) ((binAV E .eql 3 (l1.getD 0 .dead) (.lit (.int .i64 6))).bind fun r563 => (boolOf r563).bind fun b564 => cond b564 ((binAV E .eql 3 (.lit (.int .i64 n2)) (.lit (.int .i64 3))).bind fun r565 => some (.ret r565, h0)) ((binAV E .eql 3 (l1.getD 0 .dead) (.lit (.int .i64 9))).bind fun r566 => (boolOf r566).bind fun b567 => cond b567 ((lenA E 31 (l1.getD 8 .dead)).bind fun n568 => (binAV E .eql 3 (.lit (.int .i64 n2)) (.lit (.int .i64 n568))).bind fun r569 => (boolOf r569).bind fun b570 => cond b570 (onOut (F 138 [(l1.getD 8 .dead)] h0) (fun a571 h572 => some (.ret a571, h572)) (fun _ _ _ => none) (fun _ _ => none)) (some (.ret (.lit (.bool false)), h0))) ((binAV E .eql 3 (l1.getD 0 .dead) (.lit (.int .i64 13))).bind fun r573 => (boolOf r573).bind fun b574 => cond b574 ((binAV E .leq 3 (.lit (.int .i64 n2)) (.lit (.int .i64 4))).bind fun r575 => some (.ret r575, h0)) (some (.ret (.lit (.bool false)), h0)))))) ((binAV E .eql 3 (l1.getD 0 .dead) (.lit (.int .i64 8))).bind fun r576 => (boolOf r576).bind fun b577 => cond b577 ((boolOf r576).bind fun b578 => cond b578 ((binAV E .eql 3 (.lit (.int .i64 n2)) (.lit (.int .i64 2))).bind fun r579 => some (.ret r579, h0)) ((binAV E .eql 3 (l1.getD 0 .dead) (.lit (.int .i64 6))).bind fun r580 => (boolOf r580).bind fun b581 => cond b581 ((binAV E .eql 3 (.lit (.int .i64 n2)) (.lit (.int .i64 3))).bind fun r582 => some (.ret r582, h0)) ((binAV E .eql 3 (l1.getD 0 .dead) (.lit (.int .i64 9))).bind fun r583 => (boolOf r583).bind fun b584 => cond b584 ((lenA E 31 (l1.getD 8 .dead)).bind fun n585 => (binAV E .eql 3 (.lit (.int .i64 n2)) (.lit (.int .i64 n585))).bind fun r586 => (boolOf r586).bind fun b587 => cond b587 (onOut (F 138 [(l1.getD 8 .dead)] h0) (fun a588 h589 => some (.ret a588, h589)) (fun _ _ _ => none) (fun _ _ => none)) (some (.ret (.lit (.bool false)), h0))) ((binAV E .eql 3 (l1.getD 0 .dead) (.lit (.int .i64 13))).bind fun r590 => (boolOf r590).bind fun b591 => cond b591 ((binAV E .leq 3 (.lit (.int .i64 n2)) (.lit (.int .i64 4))).bind fun r592 => some (.ret r592, h0)) (some (.ret (.lit (.bool false)), h0)))))) ((binAV E .eql 3 (l1.getD 0 .dead) (.lit (.int .i64 11))).bind fun r593 => (boolOf r593).bind fun b594 => cond b594 ((binAV E .eql 3 (.lit (.int .i64 n2)) (.lit (.int .i64 2))).bind fun r595 => some (.ret r595, h0)) ((binAV E .eql 3 (l1.getD 0 .dead) (.lit (.int .i64 6))).bind fun r596 => (boolOf r596).bind fun b597 => cond b597 ((binAV E .eql 3 (.lit (.int .i64 n2)) (.lit (.int .i64 3))).bind fun r598 => some (.ret r598, h0)) ((binAV E .eql 3 (l1.getD 0 .dead) (.lit (.int .i64 9))).bind fun r599 => (boolOf r599).bind fun b600 => cond b600 ((lenA E 31 (l1.getD 8 .dead)).bind fun n601 => (binAV E .eql 3 (.lit (.int .i64 n2)) (.lit (.int .i64 n601))).bind fun r602 => (boolOf r602).bind fun b603 => cond b603 (onOut (F 138 [(l1.getD 8 .dead)] h0) (fun a604 h605 => some (.ret a604, h605)) (fun _ _ _ => none) (fun _ _ => none)) (some (.ret (.lit (.bool false)), h0))) ((binAV E .eql 3 (l1.getD 0 .dead) (.lit (.int .i64 13))).bind fun r606 => (boolOf r606).bind fun b607 => cond b607 ((binAV E .leq 3 (.lit (.int .i64 n2)) (.lit (.int .i64 4))).bind fun r608 => some (.ret r608, h0)) (some (.ret (.lit (.bool false)), h0))))))))) ((binAV E .eql 3 (l1.getD 0 .dead) (.lit (.int .i64 12))).bind fun r609 => (boolOf r609).bind fun b610 => cond b610 ((binAV E .eql 3 (.lit (.int .i64 n2)) (.lit (.int .i64 1))).bind fun r611 => some (.ret r611, h0)) ((binAV E .eql 3 (l1.getD 0 .dead) (.lit (.int .i64 5))).bind fun r612 => (boolOf r612).bind fun b613 => cond b613 ((boolOf r612).bind fun b614 => cond b614 ((binAV E .eql 3 (.lit (.int .i64 n2)) (.lit (.int .i64 2))).bind fun r615 => some (.ret r615, h0)) ((binAV E .eql 3 (l1.getD 0 .dead) (.lit (.int .i64 6))).bind fun r616 => (boolOf r616).bind fun b617 => cond b617 ((binAV E .eql 3 (.lit (.int .i64 n2)) (.lit (.int .i64 3))).bind fun r618 => some (.ret r618, h0)) ((binAV E .eql 3 (l1.getD 0 .dead) (.lit (.int .i64 9))).bind fun r619 => (boolOf r619).bind fun b620 => cond b620 ((lenA E 31 (l1.getD 8 .dead)).bind fun n621 => (binAV E .eql 3 (.lit (.int .i64 n2)) (.lit (.int .i64 n621))).bind fun r622 => (boolOf r622).bind fun b623 => cond b623 (onOut (F 138 [(l1.getD 8 .dead)] h0) (fun a624 h625 => some (.ret a624, h625)) (fun _ _ _ => none) (fun _ _ => none)) (some (.ret (.lit (.bool false)), h0))) ((binAV E .eql 3 (l1.getD 0 .dead) (.lit (.int .i64 13))).bind fun r626 => (boolOf r626).bind fun b627 => cond b627 ((binAV E .leq 3 (.lit (.int .i64 n2)) (.lit (.int .i64 4))).bind fun r628 => some (.ret r628, h0)) (some (.ret (.lit (.bool false)), h0)))))) ((binAV E .eql 3 (l1.getD 0 .dead) (.lit (.int .i64 8))).bind fun r629 => (boolOf r629).bind fun b630 => cond b630 ((boolOf r629).bind fun b631 => cond b631 ((binAV E .eql 3 (.lit (.int .i64 n2)) (.lit (.int .i64 2))).bind fun r632 => some (.ret r632, h0)) ((binAV E .eql 3 (l1.getD 0 .dead) (.lit (.int .i64 6))).bind fun r633 => (boolOf r633).bind fun b634 => cond b634 ((binAV E .eql 3 (.lit (.int .i64 n2)) (.lit (.int .i64 3))).bind fun r635 => some (.ret r635, h0)) ((binAV E .eql 3 (l1.getD 0 .dead) (.lit (.int .i64 9))).bind fun r636 => (boolOf r636).bind fun b637 => cond b637 ((lenA E 31 (l1.getD 8 .dead)).bind fun n638 => (binAV E .eql 3 (.lit (.int .i64 n2)) (.lit (.int .i64 n638))).bind fun r639 => (boolOf r639).bind fun b640 => cond b640 (onOut (F 138 [(l1.getD 8 .dead)] h0) (fun a641 h642 => some (.ret a641, h642)) (fun _ _ _ => none) (fun _ _ => none)) (some (.ret (.lit (.bool false)), h0))) ((binAV E .eql 3 (l1.getD 0 .dead) (.lit (.int .i64 13))).bind fun r643 => (boolOf r643).bind fun b644 => cond b644 ((binAV E .leq 3 (.lit (.int .i64 n2)) (.lit (.int .i64 4))).bind fun r645 => some (.ret r645, h0)) (some (.ret (.lit (.bool false)), h0)))))) ((binAV E .eql 3 (l1.getD 0 .dead) (.lit (.int .i64 11))).bind fun r646 => (boolOf r646).bind fun b647 => cond b647 ((binAV E .eql 3 (.lit (.int .i64 n2)) (.lit (.int .i64 2))).bind fun r648 => some (.ret r648, h0)) ((binAV E .eql 3 (l1.getD 0 .dead) (.lit (.int .i64 6))).bind fun r649 => (boolOf r649).bind fun b650 => cond b650 ((binAV E .eql 3 (.lit (.int .i64 n2)) (.lit (.int .i64 3))).bind fun r651 => some (.ret r651, h0)) ((binAV E .eql 3 (l1.getD 0 .dead) (.lit (.int .i64 9))).bind fun r652 => (boolOf r652).bind fun b653 => cond b653 ((lenA E 31 (l1.getD 8 .dead)).bind fun n654 => (binAV E .eql 3 (.lit (.int .i64 n2)) (.lit (.int .i64 n654))).bind fun r655 => (boolOf r655).bind fun b656 => cond b656 (onOut (F 138 [(l1.getD 8 .dead)] h0) (fun a657 h658 => some (.ret a657, h658)) (fun _ _ _ => none) (fun _ _ => none)) (some (.ret (.lit (.bool false)), h0))) ((binAV E .eql 3 (l1.getD 0 .dead) (.lit (.int .i64 13))).bind fun r659 => (boolOf r659).bind fun b660 => cond b660 ((binAV E .leq 3 (.lit (.int .i64 n2)) (.lit (.int .i64 4))).bind fun r661 => some (.ret r661, h0)) (some (.ret (.lit (.bool false)), h0))))))))))))))) none := by kernel_rfl
-- 91 limbeck/core.typed
theorem nf91 (a0_ : AV) : runF E 91 Try.f91 F n [a0_] h0 = (aggOf a0_).bind fun l1 => cond (Nat.beq l1.length 11) ((lenA E 29 (l1.getD 7 .dead)).bind fun n2 => (binAV E .eql 3 (l1.getD 0 .dead) (.lit (.int .i64 12))).bind fun r3 => (boolOf r3).bind fun b4 => cond b4 ((binAV E .neq 3 (.lit (.int .i64 n2)) (.lit (.int .i64 2))).bind fun r5 => (boolOf r5).bind fun b6 => cond b6 (some (.ret (.lit (.bool false)), h0)) (onOut (F 135 [(l1.getD 7 .dead), .fn 142 [] []] h0) (fun a7 h8 => (unAV .not a7).bind fun r9 => some (.ret r9, h8)) (fun _ _ _ => none) (fun _ _ => none))) ((binAV E .eql 3 (l1.getD 0 .dead) (.lit (.int .i64 13))).bind fun r10 => (boolOf r10).bind fun b11 => cond b11 ((binAV E .gtr 3 (.lit (.int .i64 n2)) (.lit (.int .i64 3))).bind fun r12 => (boolOf r12).bind fun b13 => cond b13 (some (.ret (.lit (.bool false)), h0)) (onOut (F 135 [(l1.getD 7 .dead), .fn 142 [] []] h0) (fun a14 h15 => (unAV .not a14).bind fun r16 => some (.ret r16, h15)) (fun _ _ _ => none) (fun _ _ => none))) ((binAV E .eql 3 (.lit (.int .i64 n2)) (.lit (.int .i64 0))).bind fun r17 => some (.ret r17, h0)))) none := by kernel_rfl
-- 92 slices.ContainsFunc[[]limbeck/api.Core,limbeck/api.Core]
theorem nf92 (a0_ : AV) (a1_ : AV) : runF E 92 Try.f92 F n [a0_, a1_] h0 = onOut (F 143 [a0_, a1_] h0) (fun a1 h2 => (binAV E .geq 3 a1 (.lit (.int .i64 0))).bind fun r3 => some (.ret r3, h2)) (fun _ _ _ => none) (fun _ _ => none) := by kernel_rfl
-- 93 limbeck/core.Right$1
theorem nf93 (a0_ : AV) : runF E 93 Try.f93 F n [a0_] h0 = (aggOf a0_).bind fun l1 => cond (Nat.beq l1.length 11) (onOut (F 38 [.agg [(l1.getD 0 .dead), (l1.getD 1 .dead), (l1.getD 2 .dead), (l1.getD 3 .dead), (l1.getD 4 .dead), (l1.getD 5 .dead), (l1.getD 6 .dead), (l1.getD 7 .dead), (l1.getD 8 .dead), (l1.getD 9 .dead), (l1.getD 10 .dead)]] h0) (fun a2 h3 => (unAV .not a2).bind fun r4 => some (.ret r4, h3)) (fun _ _ _ => none) (fun _ _ => none)) none := by kernel_rfl
-- 94 limbeck/limbeckref26.own
noncomputable def Lp94_7 (m : Nat) (h : Heap) (x133 : AV) (x134 : AV) (x135 : AV) (x136 : AV) (x137 : AV) (x138 : AV) (x139 : AV) (x140 : AV) (x141 : AV) (x142 : AV) (x143 : AV) (x144 : AV) : R := loopAt E 94 Try.f94 F n h0 [.r, .r, .r, .r, .r, .r, .r, .r, .r, .l, .r, .b] m { s := lkS [(1, .loc [.v x133, .v x134, .v x135, .v x136, .v x137, .v x138, .v x139, .v x140, .v x141, .v x142, .v x143]), (8, .c (.v x144))], h := h }
theorem Lp94_7_zero (h : Heap) (x133 : AV) (x134 : AV) (x135 : AV) (x136 : AV) (x137 : AV) (x138 : AV) (x139 : AV) (x140 : AV) (x141 : AV) (x142 : AV) (x143 : AV) (x144 : AV) : Lp94_7 F n h0 0 h x133 x134 x135 x136 x137 x138 x139 x140 x141 x142 x143 x144 = none := by kernel_rfl
theorem Lp94_7_succ (m : Nat) (h : Heap) (x133 : AV) (x134 : AV) (x135 : AV) (x136 : AV) (x137 : AV) (x138 : AV) (x139 : AV) (x140 : AV) (x141 : AV) (x142 : AV) (x143 : AV) (x144 : AV) : Lp94_7 F n h0 (m + 1) h x133 x134 x135 x136 x137 x138 x139 x140 x141 x142 x143 x144 = (lenA E 29 x140).bind fun n145 => (binAV E .lss 3 x144 (.lit (.int .i64 n145))).bind fun r146 => (boolOf r146).bind fun b147 => cond b147 ((indexA 5 x140 x144).bind fun e148 => (partA true 5 0 e148).bind fun v149 => onOut (F 25 [v149] h) (fun a150 h151 => (unAV .not a150).bind fun r152 => (boolOf r152).bind fun b153 => cond b153 (some (.ret (.lit (.bool false)), h151)) ((binAV E .add 3 x144 (.lit (.int .i64 1))).bind fun r154 => Lp94_7 F n h0 m h151 x133 x134 x135 x136 x137 x138 x139 x140 x141 x142 x143 r154)) (fun _ _ _ => none) (fun _ _ => none)) (some (.ret (.lit (.bool true)), h)) := by kernel_rfl
noncomputable def Sq94_6 (h : Heap) (x120 : AV) (x121 : AV) (x122 : AV) (x123 : AV) (x124 : AV) (x125 : AV) (x126 : AV) (x127 : AV) (x128 : AV) (x129 : AV) (x130 : AV) (x131 : AV) : R := contAt E 94 Try.f94 F n h0 [.r, .r, .r, .r, .r, .r, .r, .r, .l, .l] { s := lkS [(1, .loc [.v x120, .v x121, .v x122, .v x123, .v x124, .v x125, .v x126, .v x127, .v x128, .v x129, .v x130]), (196, .c (.v x131))], h := h }
theorem Sq94_6_eq (h : Heap) (x120 : AV) (x121 : AV) (x122 : AV) (x123 : AV) (x124 : AV) (x125 : AV) (x126 : AV) (x127 : AV) (x128 : AV) (x129 : AV) (x130 : AV) (x131 : AV) : Sq94_6 F n h0 h x120 x121 x122 x123 x124 x125 x126 x127 x128 x129 x130 x131 = gateK n ((boolOf x131).bind fun b132 => cond b132 (some (.ret (.lit (.bool false)), h)) (Lp94_7 F n h0 n h x120 x121 x122 x123 x124 x125 x126 x127 x128 x129 x130 (.lit (.int .i64 0)))) := by kernel_rfl
noncomputable def Sq94_5 (h : Heap) (x94 : AV) (x95 : AV) (x96 : AV) (x97 : AV) (x98 : AV) (x99 : AV) (x100 : AV) (x101 : AV) (x102 : AV) (x103 : AV) (x104 : AV) (x105 : AV) : R := contAt E 94 Try.f94 F n h0 [.r, .r, .r, .r, .r, .r, .l, .l] { s := lkS [(1, .loc [.v x94, .v x95, .v x96, .v x97, .v x98, .v x99, .v x100, .v x101, .v x102, .v x103, .v x104]), (163, .c (.v x105))], h := h }
theorem Sq94_5_eq (h : Heap) (x94 : AV) (x95 : AV) (x96 : AV) (x97 : AV) (x98 : AV) (x99 : AV) (x100 : AV) (x101 : AV) (x102 : AV) (x103 : AV) (x104 : AV) (x105 : AV) : Sq94_5 F n h0 h x94 x95 x96 x97 x98 x99 x100 x101 x102 x103 x104 x105 = gateK n ((boolOf x105).bind fun b106 => cond b106 (some (.ret (.lit (.bool false)), h)) (onOut (F 144 [.agg [x94, x95, x96, x97, x98, x99, x100, x101, x102, x103, x104]] h) (fun a107 h108 => (tupOf a107).bind fun l109 => (l109[0]?).bind fun v110 => (tupOf a107).bind fun l111 => (l111[1]?).bind fun v112 => (tupOf a107).bind fun l113 => (l113[2]?).bind fun v114 => (tupOf a107).bind fun l115 => (l115[3]?).bind fun v116 => (lenA E 29 x101).bind fun n117 => (binAV E .lss 3 (.lit (.int .i64 n117)) v110).bind fun r118 => (boolOf r118).bind fun b119 => cond b119 (Sq94_6 F n h0 h108 x94 x95 x96 x97 x98 x99 x100 x101 x102 x103 x104 (.lit (.bool true))) ((lenA E 29 x101).bind fun n155 => (binAV E .gtr 3 (.lit (.int .i64 n155)) v112).bind fun r156 => (boolOf r156).bind fun b157 => cond b157 (Sq94_6 F n h0 h108 x94 x95 x96 x97 x98 x99 x100 x101 x102 x103 x104 (.lit (.bool true))) ((lenA E 54 x103).bind fun n158 => (binAV E .lss 3 (.lit (.int .i64 n158)) v114).bind fun r159 => (boolOf r159).bind fun b160 => cond b160 (Sq94_6 F n h0 h108 x94 x95 x96 x97 x98 x99 x100 x101 x102 x103 x104 (.lit (.bool true))) ((lenA E 54 x103).bind fun n161 => (binAV E .gtr 3 (.lit (.int .i64 n161)) v116).bind fun r162 => Sq94_6 F n h0 h108 x94 x95 x96 x97 x98 x99 x100 x101 x102 x103 x104 r162)))) (fun _ _ _ => none) (fun _ _ => none))) := by kernel_rfl
noncomputable def Sq94_4 (h : Heap) (x76 : AV) (x77 : AV) (x78 : AV) (x79 : AV) (x80 : AV) (x81 : AV) (x82 : AV) (x83 : AV) (x84 : AV) (x85 : AV) (x86 : AV) (x87 : AV) : R := contAt E 94 Try.f94 F n h0 [.r, .r, .r, .r, .r, .l, .l] { s := lkS [(1, .loc [.v x76, .v x77, .v x78, .v x79, .v x80, .v x81, .v x82, .v x83, .v x84, .v x85, .v x86]), (148, .c (.v x87))], h := h }
theorem Sq94_4_eq (h : Heap) (x76 : AV) (x77 : AV) (x78 : AV) (x79 : AV) (x80 : AV) (x81 : AV) (x82 : AV) (x83 : AV) (x84 : AV) (x85 : AV) (x86 : AV) (x87 : AV) : Sq94_4 F n h0 h x76 x77 x78 x79 x80 x81 x82 x83 x84 x85 x86 x87 = gateK n ((boolOf x87).bind fun b88 => cond b88 (some (.ret (.lit (.bool false)), h)) ((binAV E .neq 3 x76 (.lit (.int .i64 9))).bind fun r89 => (boolOf r89).bind fun b90 => cond b90 ((lenA E 31 x84).bind fun n91 => (binAV E .gtr 3 (.lit (.int .i64 n91)) (.lit (.int .i64 0))).bind fun r92 => (boolOf r92).bind fun b93 => cond b93 (Sq94_5 F n h0 h x76 x77 x78 x79 x80 x81 x82 x83 x84 x85 x86 (.lit (.bool true))) (onOut (F 81 [x84] h) (fun a163 h164 => (unAV .not a163).bind fun r165 => Sq94_5 F n h0 h164 x76 x77 x78 x79 x80 x81 x82 x83 x84 x85 x86 r165) (fun _ _ _ => none) (fun _ _ => none))) (onOut (F 81 [x84] h) (fun a166 h167 => (unAV .not a166).bind fun r168 => Sq94_5 F n h0 h167 x76 x77 x78 x79 x80 x81 x82 x83 x84 x85 x86 r168) (fun _ _ _ => none) (fun _ _ => none)))) := by kernel_rfl
noncomputable def Sq94_3 (h : Heap) (x55 : AV) (x56 : AV) (x57 : AV) (x58 : AV) (x59 : AV) (x60 : AV) (x61 : AV) (x62 : AV) (x63 : AV) (x64 : AV) (x65 : AV) (x66 : AV) : R := contAt E 94 Try.f94 F n h0 [.r, .r, .r, .r, .l, .l] { s := lkS [(1, .loc [.v x55, .v x56, .v x57, .v x58, .v x59, .v x60, .v x61, .v x62, .v x63, .v x64, .v x65]), (114, .c (.v x66))], h := h }
theorem Sq94_3_eq (h : Heap) (x55 : AV) (x56 : AV) (x57 : AV) (x58 : AV) (x59 : AV) (x60 : AV) (x61 : AV) (x62 : AV) (x63 : AV) (x64 : AV) (x65 : AV) (x66 : AV) : Sq94_3 F n h0 h x55 x56 x57 x58 x59 x60 x61 x62 x63 x64 x65 x66 = gateK n ((boolOf x66).bind fun b67 => cond b67 (some (.ret (.lit (.bool false)), h)) ((binAV E .neq 3 x55 (.lit (.int .i64 1))).bind fun r68 => (boolOf r68).bind fun b69 => cond b69 ((binAV E .neq 3 x55 (.lit (.int .i64 2))).bind fun r70 => (boolOf r70).bind fun b71 => cond b71 ((binAV E .neq 3 x55 (.lit (.int .i64 11))).bind fun r72 => (boolOf r72).bind fun b73 => cond b73 ((binAV E .neq 3 x56 (.lit (.int .i64 0))).bind fun r74 => (boolOf r74).bind fun b75 => cond b75 (Sq94_4 F n h0 h x55 x56 x57 x58 x59 x60 x61 x62 x63 x64 x65 (.lit (.bool true))) ((binAV E .neq 3 x55 (.lit (.int .i64 12))).bind fun r169 => (boolOf r169).bind fun b170 => cond b170 ((binAV E .neq 3 x55 (.lit (.int .i64 13))).bind fun r171 => (boolOf r171).bind fun b172 => cond b172 ((binAV E .neq 25 (.agg [x60, x61]) (.agg [.lit (.string ByteArray.empty), .lit (.int .i64 0)])).bind fun r173 => Sq94_4 F n h0 h x55 x56 x57 x58 x59 x60 x61 x62 x63 x64 x65 r173) (Sq94_4 F n h0 h x55 x56 x57 x58 x59 x60 x61 x62 x63 x64 x65 (.lit (.bool false)))) (Sq94_4 F n h0 h x55 x56 x57 x58 x59 x60 x61 x62 x63 x64 x65 (.lit (.bool false))))) ((binAV E .neq 3 x55 (.lit (.int .i64 12))).bind fun r174 => (boolOf r174).bind fun b175 => cond b175 ((binAV E .neq 3 x55 (.lit (.int .i64 13))).bind fun r176 => (boolOf r176).bind fun b177 => cond b177 ((binAV E .neq 25 (.agg [x60, x61]) (.agg [.lit (.string ByteArray.empty), .lit (.int .i64 0)])).bind fun r178 => Sq94_4 F n h0 h x55 x56 x57 x58 x59 x60 x61 x62 x63 x64 x65 r178) (Sq94_4 F n h0 h x55 x56 x57 x58 x59 x60 x61 x62 x63 x64 x65 (.lit (.bool false)))) (Sq94_4 F n h0 h x55 x56 x57 x58 x59 x60 x61 x62 x63 x64 x65 (.lit (.bool false))))) ((binAV E .neq 3 x55 (.lit (.int .i64 12))).bind fun r179 => (boolOf r179).bind fun b180 => cond b180 ((binAV E .neq 3 x55 (.lit (.int .i64 13))).bind fun r181 => (boolOf r181).bind fun b182 => cond b182 ((binAV E .neq 25 (.agg [x60, x61]) (.agg [.lit (.string ByteArray.empty), .lit (.int .i64 0)])).bind fun r183 => Sq94_4 F n h0 h x55 x56 x57 x58 x59 x60 x61 x62 x63 x64 x65 r183) (Sq94_4 F n h0 h x55 x56 x57 x58 x59 x60 x61 x62 x63 x64 x65 (.lit (.bool false)))) (Sq94_4 F n h0 h x55 x56 x57 x58 x59 x60 x61 x62 x63 x64 x65 (.lit (.bool false))))) ((binAV E .neq 3 x55 (.lit (.int .i64 12))).bind fun r184 => (boolOf r184).bind fun b185 => cond b185 ((binAV E .neq 3 x55 (.lit (.int .i64 13))).bind fun r186 => (boolOf r186).bind fun b187 => cond b187 ((binAV E .neq 25 (.agg [x60, x61]) (.agg [.lit (.string ByteArray.empty), .lit (.int .i64 0)])).bind fun r188 => Sq94_4 F n h0 h x55 x56 x57 x58 x59 x60 x61 x62 x63 x64 x65 r188) (Sq94_4 F n h0 h x55 x56 x57 x58 x59 x60 x61 x62 x63 x64 x65 (.lit (.bool false)))) (Sq94_4 F n h0 h x55 x56 x57 x58 x59 x60 x61 x62 x63 x64 x65 (.lit (.bool false)))))) := by kernel_rfl
noncomputable def Sq94_2 (h : Heap) (x36 : AV) (x37 : AV) (x38 : AV) (x39 : AV) (x40 : AV) (x41 : AV) (x42 : AV) (x43 : AV) (x44 : AV) (x45 : AV) (x46 : AV) (x47 : AV) : R := contAt E 94 Try.f94 F n h0 [.r, .r, .r, .l, .l] { s := lkS [(1, .loc [.v x36, .v x37, .v x38, .v x39, .v x40, .v x41, .v x42, .v x43, .v x44, .v x45, .v x46]), (86, .c (.v x47))], h := h }
theorem Sq94_2_eq (h : Heap) (x36 : AV) (x37 : AV) (x38 : AV) (x39 : AV) (x40 : AV) (x41 : AV) (x42 : AV) (x43 : AV) (x44 : AV) (x45 : AV) (x46 : AV) (x47 : AV) : Sq94_2 F n h0 h x36 x37 x38 x39 x40 x41 x42 x43 x44 x45 x46 x47 = gateK n ((boolOf x47).bind fun b48 => cond b48 (some (.ret (.lit (.bool false)), h)) ((binAV E .eql 3 x36 (.lit (.int .i64 2))).bind fun r49 => (boolOf r49).bind fun b50 => cond b50 ((binAV E .neq 3 x37 (.lit (.int .i64 0))).bind fun r51 => (boolOf r51).bind fun b52 => cond b52 ((binAV E .neq 3 x37 (.lit (.int .i64 1))).bind fun r53 => (boolOf r53).bind fun b54 => cond b54 (Sq94_3 F n h0 h x36 x37 x38 x39 x40 x41 x42 x43 x44 x45 x46 (.lit (.bool true))) ((binAV E .eql 3 x36 (.lit (.int .i64 11))).bind fun r189 => (boolOf r189).bind fun b190 => cond b190 ((binAV E .lss 3 x37 (.lit (.int .i64 1))).bind fun r191 => (boolOf r191).bind fun b192 => cond b192 (Sq94_3 F n h0 h x36 x37 x38 x39 x40 x41 x42 x43 x44 x45 x46 (.lit (.bool true))) ((binAV E .gtr 3 x37 (.lit (.int .i64 7))).bind fun r193 => Sq94_3 F n h0 h x36 x37 x38 x39 x40 x41 x42 x43 x44 x45 x46 r193)) (Sq94_3 F n h0 h x36 x37 x38 x39 x40 x41 x42 x43 x44 x45 x46 (.lit (.bool false))))) ((binAV E .eql 3 x36 (.lit (.int .i64 11))).bind fun r194 => (boolOf r194).bind fun b195 => cond b195 ((binAV E .lss 3 x37 (.lit (.int .i64 1))).bind fun r196 => (boolOf r196).bind fun b197 => cond b197 (Sq94_3 F n h0 h x36 x37 x38 x39 x40 x41 x42 x43 x44 x45 x46 (.lit (.bool true))) ((binAV E .gtr 3 x37 (.lit (.int .i64 7))).bind fun r198 => Sq94_3 F n h0 h x36 x37 x38 x39 x40 x41 x42 x43 x44 x45 x46 r198)) (Sq94_3 F n h0 h x36 x37 x38 x39 x40 x41 x42 x43 x44 x45 x46 (.lit (.bool false))))) ((binAV E .eql 3 x36 (.lit (.int .i64 11))).bind fun r199 => (boolOf r199).bind fun b200 => cond b200 ((binAV E .lss 3 x37 (.lit (.int .i64 1))).bind fun r201 => (boolOf r201).bind fun b202 => cond b202 (Sq94_3 F n h0 h x36 x37 x38 x39 x40 x41 x42 x43 x44 x45 x46 (.lit (.bool true))) ((binAV E .gtr 3 x37 (.lit (.int .i64 7))).bind fun r203 => Sq94_3 F n h0 h x36 x37 x38 x39 x40 x41 x42 x43 x44 x45 x46 r203)) (Sq94_3 F n h0 h x36 x37 x38 x39 x40 x41 x42 x43 x44 x45 x46 (.lit (.bool false)))))) := by kernel_rfl
noncomputable def Sq94_1 (h : Heap) (x19 : AV) (x20 : AV) (x21 : AV) (x22 : AV) (x23 : AV) (x24 : AV) (x25 : AV) (x26 : AV) (x27 : AV) (x28 : AV) (x29 : AV) (x30 : AV) : R := contAt E 94 Try.f94 F n h0 [.r, .r, .l] { s := lkS [(1, .loc [.v x19, .v x20, .v x21, .v x22, .v x23, .v x24, .v x25, .v x26, .v x27, .v x28, .v x29]), (3, .c (.v x30))], h := h }
theorem Sq94_1_eq (h : Heap) (x19 : AV) (x20 : AV) (x21 : AV) (x22 : AV) (x23 : AV) (x24 : AV) (x25 : AV) (x26 : AV) (x27 : AV) (x28 : AV) (x29 : AV) (x30 : AV) : Sq94_1 F n h0 h x19 x20 x21 x22 x23 x24 x25 x26 x27 x28 x29 x30 = gateK n ((boolOf x30).bind fun b31 => cond b31 (onOut (F 133 [x23] h) (fun a32 h33 => (unAV .not a32).bind fun r34 => (boolOf r34).bind fun b35 => cond b35 (Sq94_2 F n h0 h33 x19 x20 x21 x22 x23 x24 x25 x26 x27 x28 x29 (.lit (.bool true))) ((unAV .not x30).bind fun r204 => (boolOf r204).bind fun b205 => cond b205 ((binAV E .neq 3 x19 (.lit (.int .i64 3))).bind fun r206 => (boolOf r206).bind fun b207 => cond b207 ((binAV E .neq 9 x23 (.lit (.string ByteArray.empty))).bind fun r208 => (boolOf r208).bind fun b209 => cond b209 (Sq94_2 F n h0 h33 x19 x20 x21 x22 x23 x24 x25 x26 x27 x28 x29 (.lit (.bool true))) ((binAV E .eql 3 x19 (.lit (.int .i64 3))).bind fun r210 => (boolOf r210).bind fun b211 => cond b211 ((lenA E 9 x23).bind fun n212 => (binAV E .gtr 3 (.lit (.int .i64 n212)) (.lit (.int .i64 40))).bind fun r213 => Sq94_2 F n h0 h33 x19 x20 x21 x22 x23 x24 x25 x26 x27 x28 x29 r213) (Sq94_2 F n h0 h33 x19 x20 x21 x22 x23 x24 x25 x26 x27 x28 x29 (.lit (.bool false))))) ((binAV E .eql 3 x19 (.lit (.int .i64 3))).bind fun r214 => (boolOf r214).bind fun b215 => cond b215 ((lenA E 9 x23).bind fun n216 => (binAV E .gtr 3 (.lit (.int .i64 n216)) (.lit (.int .i64 40))).bind fun r217 => Sq94_2 F n h0 h33 x19 x20 x21 x22 x23 x24 x25 x26 x27 x28 x29 r217) (Sq94_2 F n h0 h33 x19 x20 x21 x22 x23 x24 x25 x26 x27 x28 x29 (.lit (.bool false))))) ((binAV E .eql 3 x19 (.lit (.int .i64 3))).bind fun r218 => (boolOf r218).bind fun b219 => cond b219 ((lenA E 9 x23).bind fun n220 => (binAV E .gtr 3 (.lit (.int .i64 n220)) (.lit (.int .i64 40))).bind fun r221 => Sq94_2 F n h0 h33 x19 x20 x21 x22 x23 x24 x25 x26 x27 x28 x29 r221) (Sq94_2 F n h0 h33 x19 x20 x21 x22 x23 x24 x25 x26 x27 x28 x29 (.lit (.bool false)))))) (fun _ _ _ => none) (fun _ _ => none)) ((unAV .not x30).bind fun r222 => (boolOf r222).bind fun b223 => cond b223 ((binAV E .neq 3 x19 (.lit (.int .i64 3))).bind fun r224 => (boolOf r224).bind fun b225 => cond b225 ((binAV E .neq 9 x23 (.lit (.string ByteArray.empty))).bind fun r226 => (boolOf r226).bind fun b227 => cond b227 (Sq94_2 F n h0 h x19 x20 x21 x22 x23 x24 x25 x26 x27 x28 x29 (.lit (.bool true))) ((binAV E .eql 3 x19 (.lit (.int .i64 3))).bind fun r228 => (boolOf r228).bind fun b229 => cond b229 ((lenA E 9 x23).bind fun n230 => (binAV E .gtr 3 (.lit (.int .i64 n230)) (.lit (.int .i64 40))).bind fun r231 => Sq94_2 F n h0 h x19 x20 x21 x22 x23 x24 x25 x26 x27 x28 x29 r231) (Sq94_2 F n h0 h x19 x20 x21 x22 x23 x24 x25 x26 x27 x28 x29 (.lit (.bool false))))) ((binAV E .eql 3 x19 (.lit (.int .i64 3))).bind fun r232 => (boolOf r232).bind fun b233 => cond b233 ((lenA E 9 x23).bind fun n234 => (binAV E .gtr 3 (.lit (.int .i64 n234)) (.lit (.int .i64 40))).bind fun r235 => Sq94_2 F n h0 h x19 x20 x21 x22 x23 x24 x25 x26 x27 x28 x29 r235) (Sq94_2 F n h0 h x19 x20 x21 x22 x23 x24 x25 x26 x27 x28 x29 (.lit (.bool false))))) ((binAV E .eql 3 x19 (.lit (.int .i64 3))).bind fun r236 => (boolOf r236).bind fun b237 => cond b237 ((lenA E 9 x23).bind fun n238 => (binAV E .gtr 3 (.lit (.int .i64 n238)) (.lit (.int .i64 40))).bind fun r239 => Sq94_2 F n h0 h x19 x20 x21 x22 x23 x24 x25 x26 x27 x28 x29 r239) (Sq94_2 F n h0 h x19 x20 x21 x22 x23 x24 x25 x26 x27 x28 x29 (.lit (.bool false)))))) := by kernel_rfl
noncomputable def Sq94_0 (h : Heap) (x4 : AV) (x5 : AV) (x6 : AV) (x7 : AV) (x8 : AV) (x9 : AV) (x10 : AV) (x11 : AV) (x12 : AV) (x13 : AV) (x14 : AV) (x15 : AV) : R := contAt E 94 Try.f94 F n h0 [.r, .l, .l] { s := lkS [(1, .loc [.v x4, .v x5, .v x6, .v x7, .v x8, .v x9, .v x10, .v x11, .v x12, .v x13, .v x14]), (31, .c (.v x15))], h := h }
theorem Sq94_0_eq (h : Heap) (x4 : AV) (x5 : AV) (x6 : AV) (x7 : AV) (x8 : AV) (x9 : AV) (x10 : AV) (x11 : AV) (x12 : AV) (x13 : AV) (x14 : AV) (x15 : AV) : Sq94_0 F n h0 h x4 x5 x6 x7 x8 x9 x10 x11 x12 x13 x14 x15 = gateK n ((boolOf x15).bind fun b16 => cond b16 (some (.ret (.lit (.bool false)), h)) ((binAV E .eql 3 x4 (.lit (.int .i64 4))).bind fun r17 => (boolOf r17).bind fun b18 => cond b18 (Sq94_1 F n h0 h x4 x5 x6 x7 x8 x9 x10 x11 x12 x13 x14 (.lit (.bool true))) ((binAV E .eql 3 x4 (.lit (.int .i64 5))).bind fun r240 => (boolOf r240).bind fun b241 => cond b241 (Sq94_1 F n h0 h x4 x5 x6 x7 x8 x9 x10 x11 x12 x13 x14 (.lit (.bool true))) ((binAV E .eql 3 x4 (.lit (.int .i64 7))).bind fun r242 => (boolOf r242).bind fun b243 => cond b243 (Sq94_1 F n h0 h x4 x5 x6 x7 x8 x9 x10 x11 x12 x13 x14 (.lit (.bool true))) ((binAV E .eql 3 x4 (.lit (.int .i64 10))).bind fun r244 => (boolOf r244).bind fun b245 => cond b245 (Sq94_1 F n h0 h x4 x5 x6 x7 x8 x9 x10 x11 x12 x13 x14 (.lit (.bool true))) ((binAV E .eql 3 x4 (.lit (.int .i64 13))).bind fun r246 => Sq94_1 F n h0 h x4 x5 x6 x7 x8 x9 x10 x11 x12 x13 x14 r246)))))) := by kernel_rfl
theorem nf94 (a0_ : AV) : runF E 94 Try.f94 F n [a0_] h0 = (aggOf a0_).bind fun l1 => cond (Nat.beq l1.length 11) ((binAV E .lss 3 (l1.getD 0 .dead) (.lit (.int .i64 1))).bind fun r2 => (boolOf r2).bind fun b3 => cond b3 (Sq94_0 F n h0 h0 (l1.getD 0 .dead) (l1.getD 1 .dead) (l1.getD 2 .dead) (l1.getD 3 .dead) (l1.getD 4 .dead) (l1.getD 5 .dead) (l1.getD 6 .dead) (l1.getD 7 .dead) (l1.getD 8 .dead) (l1.getD 9 .dead) (l1.getD 10 .dead) (.lit (.bool true))) ((binAV E .gtr 3 (l1.getD 0 .dead) (.lit (.int .i64 13))).bind fun r247 => (boolOf r247).bind fun b248 => cond b248 (Sq94_0 F n h0 h0 (l1.getD 0 .dead) (l1.getD 1 .dead) (l1.getD 2 .dead) (l1.getD 3 .dead) (l1.getD 4 .dead) (l1.getD 5 .dead) (l1.getD 6 .dead) (l1.getD 7 .dead) (l1.getD 8 .dead) (l1.getD 9 .dead) (l1.getD 10 .dead) (.lit (.bool true))) ((binAV E .neq 3 (l1.getD 2 .dead) (.lit (.int .i64 0))).bind fun r249 => (boolOf r249).bind fun b250 => cond b250 (Sq94_0 F n h0 h0 (l1.getD 0 .dead) (l1.getD 1 .dead) (l1.getD 2 .dead) (l1.getD 3 .dead) (l1.getD 4 .dead) (l1.getD 5 .dead) (l1.getD 6 .dead) (l1.getD 7 .dead) (l1.getD 8 .dead) (l1.getD 9 .dead) (l1.getD 10 .dead) (.lit (.bool true))) ((boolOf (l1.getD 3 .dead)).bind fun b251 => cond b251 (Sq94_0 F n h0 h0 (l1.getD 0 .dead) (l1.getD 1 .dead) (l1.getD 2 .dead) (l1.getD 3 .dead) (l1.getD 4 .dead) (l1.getD 5 .dead) (l1.getD 6 .dead) (l1.getD 7 .dead) (l1.getD 8 .dead) (l1.getD 9 .dead) (l1.getD 10 .dead) (.lit (.bool true))) ((lenA E 55 (l1.getD 10 .dead)).bind fun n252 => (binAV E .gtr 3 (.lit (.int .i64 n252)) (.lit (.int .i64 0))).bind fun r253 => Sq94_0 F n h0 h0 (l1.getD 0 .dead) (l1.getD 1 .dead) (l1.getD 2 .dead) (l1.getD 3 .dead) (l1.getD 4 .dead) (l1.getD 5 .dead) (l1.getD 6 .dead) (l1.getD 7 .dead) (l1.getD 8 .dead) (l1.getD 9 .dead) (l1.getD 10 .dead) r253))))) none := by kernel_rfl
-- 142 limbeck/core.typed$1
theorem nf142 (a0_ : AV) : runF E 142 Try.f142 F n [a0_] h0 = (aggOf a0_).bind fun l1 => cond (Nat.beq l1.length 5) (onOut (F 85 [.agg [(l1.getD 0 .dead), (l1.getD 1 .dead), (l1.getD 2 .dead), (l1.getD 3 .dead), (l1.getD 4 .dead)]] h0) (fun a2 h3 => (unAV .not a2).bind fun r4 => some (.ret r4, h3)) (fun _ _ _ => none) (fun _ _ => none)) none := by kernel_rfl
-- 143 slices.IndexFunc[[]limbeck/api.Core,limbeck/api.Core]
noncomputable def Lp143_0 (m : Nat) (h : Heap) (x2 : AV) (x3 : AV) (x4 : AV) (x5 : AV) : R := loopAt E 143 Try.f143 F n h0 [.r, .l, .r, .b] m { s := lkS [(0, .c (.v x2)), (1, .c (.v x3)), (7, .c (.v x4)), (8, .c (.v x5))], h := h }
theorem Lp143_0_zero (h : Heap) (x2 : AV) (x3 : AV) (x4 : AV) (x5 : AV) : Lp143_0 F n h0 0 h x2 x3 x4 x5 = none := by kernel_rfl
theorem Lp143_0_succ (m : Nat) (h : Heap) (x2 : AV) (x3 : AV) (x4 : AV) (x5 : AV) : Lp143_0 F n h0 (m + 1) h x2 x3 x4 x5 = (binAV E .lss 3 x5 x4).bind fun r6 => (boolOf r6).bind fun b7 => cond b7 ((indexA 11 x2 x5).bind fun e8 => (partA true 11 0 e8).bind fun v9 => onOut (applyV F x3 [v9] h) (fun a10 h11 => (boolOf a10).bind fun b12 => cond b12 (some (.ret x5, h11)) ((binAV E .add 3 x5 (.lit (.int .i64 1))).bind fun r13 => Lp143_0 F n h0 m h11 x2 x3 x4 r13)) (fun _ _ _ => none) (fun _ _ => none)) (some (.ret (.lit (.int .i64 (-1))), h)) := by kernel_rfl
theorem nf143 (a0_ : AV) (a1_ : AV) : runF E 143 Try.f143 F n [a0_, a1_] h0 = (lenA E 54 a0_).bind fun n1 => Lp143_0 F n h0 n h0 a0_ a1_ (.lit (.int .i64 n1)) (.lit (.int .i64 0)) := by kernel_rfl
-- 144 limbeck/limbeckref26.counts
theorem nf144 (a0_ : AV) : runF E 144 Try.f144 F n [a0_] h0 = (aggOf a0_).bind fun l1 => cond (Nat.beq l1.length 11) ((binAV E .eql 3 (l1.getD 0 .dead) (.lit (.int .i64 5))).bind fun r2 => (boolOf r2).bind fun b3 => cond b3 ((boolOf r2).bind fun b4 => cond b4 (some (.ret (.tup [.lit (.int .i64 0), .lit (.int .i64 0), .lit (.int .i64 2), .lit (.int .i64 2)]), h0)) ((binAV E .eql 3 (l1.getD 0 .dead) (.lit (.int .i64 6))).bind fun r5 => (boolOf r5).bind fun b6 => cond b6 (some (.ret (.tup [.lit (.int .i64 0), .lit (.int .i64 0), .lit (.int .i64 3), .lit (.int .i64 3)]), h0)) ((binAV E .eql 3 (l1.getD 0 .dead) (.lit (.int .i64 7))).bind fun r7 => (boolOf r7).bind fun b8 => cond b8 ((boolOf r7).bind fun b9 => cond b9 (some (.ret (.tup [.lit (.int .i64 0), .lit (.int .i64 0), .lit (.int .i64 1), .lit (.int .i64 1)]), h0)) ((binAV E .eql 3 (l1.getD 0 .dead) (.lit (.int .i64 9))).bind fun r10 => (boolOf r10).bind fun b11 => cond b11 ((lenA E 31 (l1.getD 8 .dead)).bind fun n12 => (lenA E 31 (l1.getD 8 .dead)).bind fun n13 => some (.ret (.tup [.lit (.int .i64 0), .lit (.int .i64 0), .lit (.int .i64 n12), .lit (.int .i64 n13)]), h0)) ((binAV E .eql 3 (l1.getD 0 .dead) (.lit (.int .i64 12))).bind fun r14 => (boolOf r14).bind fun b15 => cond b15 (some (.ret (.tup [.lit (.int .i64 2), .lit (.int .i64 2), .lit (.int .i64 1), .lit (.int .i64 1)]), h0)) ((binAV E .eql 3 (l1.getD 0 .dead) (.lit (.int .i64 13))).bind fun r16 => (boolOf r16).bind fun b17 => cond b17 (some (.ret (.tup [.lit (.int .i64 0), .lit (.int .i64 3), .lit (.int .i64 0), .lit (.int .i64 4)]), h0)) (some (.ret (.tup [.lit (.int .i64 0), .lit (.int .i64 0), .lit (.int .i64 0), .lit (.int .i64 0)]), h0)))))) ((binAV E .eql 3 (l1.getD 0 .dead) (.lit (.int .i64 10))).bind fun r18 => (boolOf r18).bind fun b19 => cond b19 (some (.ret (.tup [.lit (.int .i64 0), .lit (.int .i64 0), .lit (.int .i64 1), .lit (.int .i64 1)]), h0)) ((binAV E .eql 3 (l1.getD 0 .dead) (.lit (.int .i64 9))).bind fun r20 => (boolOf r20).bind fun b21 => cond b21 ((lenA E 31 (l1.getD 8 .dead)).bind fun n22 => (lenA E 31 (l1.getD 8 .dead)).bind fun n23 => some (.ret (.tup [.lit (.int .i64 0), .lit (.int .i64 0), .lit (.int .i64 n22), .lit (.int .i64 n23)]), h0)) ((binAV E .eql 3 (l1.getD 0 .dead) (.lit (.int .i64 12))).bind fun r24 => (boolOf r24).bind fun b25 => cond b25 (some (.ret (.tup [.lit (.int .i64 2), .lit (.int .i64 2), .lit (.int .i64 1), .lit (.int .i64 1)]), h0)) ((binAV E .eql 3 (l1.getD 0 .dead) (.lit (.int .i64 13))).bind fun r26 => (boolOf r26).bind fun b27 => cond b27 (some (.ret (.tup [.lit (.int .i64 0), .lit (.int .i64 3), .lit (.int .i64 0), .lit (.int .i64 4)]), h0)) (some (.ret (.tup [.lit (.int .i64 0), .lit (.int .i64 0), .lit (.int .i64 0), .lit (.int .i64 0)]), h0))))))))) ((binAV E .eql 3 (l1.getD 0 .dead) (.lit (.int .i64 8))).bind fun r28 => (boolOf r28).bind fun b29 => cond b29 ((boolOf r28).bind fun b30 => cond b30 (some (.ret (.tup [.lit (.int .i64 0), .lit (.int .i64 0), .lit (.int .i64 2), .lit (.int .i64 2)]), h0)) ((binAV E .eql 3 (l1.getD 0 .dead) (.lit (.int .i64 6))).bind fun r31 => (boolOf r31).bind fun b32 => cond b32 (some (.ret (.tup [.lit (.int .i64 0), .lit (.int .i64 0), .lit (.int .i64 3), .lit (.int .i64 3)]), h0)) ((binAV E .eql 3 (l1.getD 0 .dead) (.lit (.int .i64 7))).bind fun r33 => (boolOf r33).bind fun b34 => cond b34 ((boolOf r33).bind fun b35 => cond b35 (some (.ret (.tup [.lit (.int .i64 0), .lit (.int .i64 0), .lit (.int .i64 1), .lit (.int .i64 1)]), h0)) ((binAV E .eql 3 (l1.getD 0 .dead) (.lit (.int .i64 9))).bind fun r36 => (boolOf r36).bind fun b37 => cond b37 ((lenA E 31 (l1.getD 8 .dead)).bind fun n38 => (lenA E 31 (l1.getD 8 .dead)).bind fun n39 => some (.ret (.tup [.lit (.int .i64 0), .lit (.int .i64 0), .lit (.int .i64 n38), .lit (.int .i64 n39)]), h0)) ((binAV E .eql 3 (l1.getD 0 .dead) (.lit (.int .i64 12))).bind fun r40 => (boolOf r40).bind fun b41 => cond b41 (some (.ret (.tup [.lit (.int .i64 2), .lit (.int .i64 2), .lit (.int .i64 1), .lit (.int .i64 1)]), h0)) ((binAV E .eql 3 (l1.getD 0 .dead) (.lit (.int .i64 13))).bind fun r42 => (boolOf r42).bind fun b43 => cond b43 (some (.ret (.tup [.lit (.int .i64 0), .lit (.int .i64 3), .lit (.int .i64 0), .lit (.int .i64 4)]), h0)) (some (.ret (.tup [.lit (.int .i64 0), .lit (.int .i64 0), .lit (.int .i64 0), .lit (.int .i64 0)]), h0)))))) ((binAV E .eql 3 (l1.getD 0 .dead) (.lit (.int .i64 10))).bind fun r44 => (boolOf r44).bind fun b45 => cond b45 (some (.ret (.tup [.lit (.int .i64 0), .lit (.int .i64 0), .lit (.int .i64 1), .lit (.int .i64 1)]), h0)) ((binAV E .eql 3 (l1.getD 0 .dead) (.lit (.int .i64 9))).bind fun r46 => (boolOf r46).bind fun b47 => cond b47 ((lenA E 31 (l1.getD 8 .dead)).bind fun n48 => (lenA E 31 (l1.getD 8 .dead)).bind fun n49 => some (.ret (.tup [.lit (.int .i64 0), .lit (.int .i64 0), .lit (.int .i64 n48), .lit (.int .i64 n49)]), h0)) ((binAV E .eql 3 (l1.getD 0 .dead) (.lit (.int .i64 12))).bind fun r50 => (boolOf r50).bind fun b51 => cond b51 (some (.ret (.tup [.lit (.int .i64 2), .lit (.int .i64 2), .lit (.int .i64 1), .lit (.int .i64 1)]), h0)) ((binAV E .eql 3 (l1.getD 0 .dead) (.lit (.int .i64 13))).bind fun r52 => (boolOf r52).bind fun b53 => cond b53 (some (.ret (.tup [.lit (.int .i64 0), .lit (.int .i64 3), .lit (.int .i64 0), .lit (.int .i64 4)]), h0)) (some (.ret (.tup [.lit (.int .i64 0), .lit (.int .i64 0), .lit (.int .i64 0), .lit (.int .i64 0)]), h0))))))))) ((binAV E .eql 3 (l1.getD 0 .dead) (.lit (.int .i64 11))).bind fun r54 => (boolOf r54).bind fun b55 => cond b55 (some (.ret (.tup [.lit (.int .i64 0), .lit (.int .i64 0), .lit (.int .i64 2), .lit (.int .i64 2)]), h0)) ((binAV E .eql 3 (l1.getD 0 .dead) (.lit (.int .i64 6))).bind fun r56 => (boolOf r56).bind fun b57 => cond b57 (some (.ret (.tup [.lit (.int .i64 0), .lit (.int .i64 0), .lit (.int .i64 3), .lit (.int .i64 3)]), h0)) ((binAV E .eql 3 (l1.getD 0 .dead) (.lit (.int .i64 7))).bind fun r58 => (boolOf r58).bind fun b59 => cond b59 ((boolOf r58).bind fun b60 => cond b60 (some (.ret (.tup [.lit (.int .i64 0), .lit (.int .i64 0), .lit (.int .i64 1), .lit (.int .i64 1)]), h0)) ((binAV E .eql 3 (l1.getD 0 .dead) (.lit (.int .i64 9))).bind fun r61 => (boolOf r61).bind fun b62 => cond b62 ((lenA E 31 (l1.getD 8 .dead)).bind fun n63 => (lenA E 31 (l1.getD 8 .dead)).bind fun n64 => some (.ret (.tup [.lit (.int .i64 0), .lit (.int .i64 0), .lit (.int .i64 n63), .lit (.int .i64 n64)]), h0)) ((binAV E .eql 3 (l1.getD 0 .dead) (.lit (.int .i64 12))).bind fun r65 => (boolOf r65).bind fun b66 => cond b66 (some (.ret (.tup [.lit (.int .i64 2), .lit (.int .i64 2), .lit (.int .i64 1), .lit (.int .i64 1)]), h0)) ((binAV E .eql 3 (l1.getD 0 .dead) (.lit (.int .i64 13))).bind fun r67 => (boolOf r67).bind fun b68 => cond b68 (some (.ret (.tup [.lit (.int .i64 0), .lit (.int .i64 3), .lit (.int .i64 0), .lit (.int .i64 4)]), h0)) (some (.ret (.tup [.lit (.int .i64 0), .lit (.int .i64 0), .lit (.int .i64 0), .lit (.int .i64 0)]), h0)))))) ((binAV E .eql 3 (l1.getD 0 .dead) (.lit (.int .i64 10))).bind fun r69 => (boolOf r69).bind fun b70 => cond b70 (some (.ret (.tup [.lit (.int .i64 0), .lit (.int .i64 0), .lit (.int .i64 1), .lit (.int .i64 1)]), h0)) ((binAV E .eql 3 (l1.getD 0 .dead) (.lit (.int .i64 9))).bind fun r71 => (boolOf r71).bind fun b72 => cond b72 ((lenA E 31 (l1.getD 8 .dead)).bind fun n73 => (lenA E 31 (l1.getD 8 .dead)).bind fun n74 => some (.ret (.tup [.lit (.int .i64 0), .lit (.int .i64 0), .lit (.int .i64 n73), .lit (.int .i64 n74)]), h0)) ((binAV E .eql 3 (l1.getD 0 .dead) (.lit (.int .i64 12))).bind fun r75 => (boolOf r75).bind fun b76 => cond b76 (some (.ret (.tup [.lit (.int .i64 2), .lit (.int .i64 2), .lit (.int .i64 1), .lit (.int .i64 1)]), h0)) ((binAV E .eql 3 (l1.getD 0 .dead) (.lit (.int .i64 13))).bind fun r77 => (boolOf r77).bind fun b78 => cond b78 (some (.ret (.tup [.lit (.int .i64 0), .lit (.int .i64 3), .lit (.int .i64 0), .lit (.int .i64 4)]), h0)) (some (.ret (.tup [.lit (.int .i64 0), .lit (.int .i64 0), .lit (.int .i64 0), .lit (.int .i64 0)]), h0))))))))))) none := by kernel_rfl
end
end Go.Sh.T

/- core.Right and limbeckref26.Right: the specs. -/
namespace Go.Sh.T
open Go Go.Sh
set_option linter.unusedSimpArgs false
set_option linter.unusedVariables false
set_option maxRecDepth 100000

theorem lenA9 (s : ByteArray) : lenA E 9 (.lit (.string s)) = some (s.size : Int) := (Eq.refl _).trans (by kernel_rfl)
theorem kcases (k : Int) : k = 1 ∨ k = 2 ∨ k = 3 ∨ k = 4 ∨ k = 5 ∨ k = 6 ∨ k = 7 ∨ k = 8 ∨ k = 9 ∨ k = 10 ∨ k = 11 ∨ k = 12 ∨ k = 13 ∨ (k < 1 ∨ 13 < k) := by omega
theorem kne {k j : Int} (h : k < 1 ∨ 13 < k) (h1 : 1 ≤ j) (h2 : j ≤ 13) : (k == j) = false := by rw [beq_eq_false_iff_ne]; omega
noncomputable def Core.worded (c : Core) : Bool := bif c.k == 4 || c.k == 5 || c.k == 7 || c.k == 10 || c.k == 13 then kindR c.name == 1 else bif c.k == 3 then decide ((c.name.size : Int) ≤ 40) else eqd c.name ByteArray.empty

noncomputable def Core.placed (c : Core) : Bool := eqd c.df ByteArray.empty && eqd c.nd 0
noncomputable def Core.numbered (c : Core) : Bool := !(c.m != 0) && (!c.inn && ((c.k == 12 || (c.k == 13 || c.placed)) && (bif c.k == 1 then true else bif c.k == 2 then (c.n == 0 || c.n == 1) else bif c.k == 11 then (decide (c.n ≥ 1) && decide (c.n ≤ 7)) else c.n == 0)))
def Core.bearing (c : Core) : Bool := bif c.k == 1 || c.k == 2 || c.k == 3 || c.k == 4 then (c.kids.length : Int) == 0 else bif c.k == 7 || c.k == 10 || c.k == 12 then (c.kids.length : Int) == 1 else bif c.k == 5 || c.k == 8 || c.k == 11 then (c.kids.length : Int) == 2
  else bif c.k == 6 then (c.kids.length : Int) == 3 else bif c.k == 9 then ((c.kids.length : Int) == (c.labels.length : Int) && risingR c.labels none) else bif c.k == 13 then decide ((c.kids.length : Int) ≤ 4) else false
def Core.typed (c : Core) : Bool := bif c.k == 12 then ((c.types.length : Int) == 2 && c.types.all Ty.right) else bif c.k == 13 then (decide ((c.types.length : Int) ≤ 3) && c.types.all Ty.right) else (c.types.length : Int) == 0
noncomputable def Core.own (c : Core) : Bool := decide (c.vals = []) && ((c.k == 9 || decide (c.labels = [])) && (c.worded && (c.numbered && (c.bearing && c.typed))))
mutual
noncomputable def Core.right : Core → Bool
  | ⟨k, n, m, b, s, d, e, ts, ls, xs, vs⟩ => (Core.mk k n m b s d e ts ls xs vs).own && Core.rightL xs
noncomputable def Core.rightL : List Core → Bool
  | [] => true
  | c :: r => c.right && Core.rightL r
end
theorem Core.right_eq (c : Core) : c.right = (c.own && Core.rightL c.kids) := by cases c; rw [Core.right]
theorem Core.rightL_all : ∀ l : List Core, Core.rightL l = l.all Core.right
  | [] => by rw [Core.rightL]; rfl
  | c :: r => by rw [Core.rightL, List.all_cons, Core.rightL_all r]

theorem worded88 (c : Core) (h : Heap) : evw E 88 [.agg c.cells] h = some (.ret (.lit (.bool c.worded)), h) := by
  refine evw_run primsC 0 rfl rfl rfl ?_
  rw [nf88]
  unfold Core.worded
  rcases kcases c.k with hk | hk | hk | hk | hk | hk | hk | hk | hk | hk | hk | hk | hk | hk
  · simp only [aggS, Core.cells_len, Core.c0, Core.c1, Core.c2, Core.c3, Core.c4, Core.c5, Core.c6, Core.c7, Core.c8, Core.c9, Core.c10, Core.re, show Nat.beq 11 11 = true from rfl, bind_some', bin_int, eqlI, neqI, lssI, gtrI, leqI, geqI, boolB, notB, onOut_ret, condT, condF, lenA54, lenA55, lenA29, lenA31, lenA9, List.length_map, bin_str, eqSt, neS, label_ne, tupS, hk, pfine_spec, Bool.or_self]
    rfl
  · simp only [aggS, Core.cells_len, Core.c0, Core.c1, Core.c2, Core.c3, Core.c4, Core.c5, Core.c6, Core.c7, Core.c8, Core.c9, Core.c10, Core.re, show Nat.beq 11 11 = true from rfl, bind_some', bin_int, eqlI, neqI, lssI, gtrI, leqI, geqI, boolB, notB, onOut_ret, condT, condF, lenA54, lenA55, lenA29, lenA31, lenA9, List.length_map, bin_str, eqSt, neS, label_ne, tupS, hk, pfine_spec, Bool.or_self]
    rfl
  · simp only [aggS, Core.cells_len, Core.c0, Core.c1, Core.c2, Core.c3, Core.c4, Core.c5, Core.c6, Core.c7, Core.c8, Core.c9, Core.c10, Core.re, show Nat.beq 11 11 = true from rfl, bind_some', bin_int, eqlI, neqI, lssI, gtrI, leqI, geqI, boolB, notB, onOut_ret, condT, condF, lenA54, lenA55, lenA29, lenA31, lenA9, List.length_map, bin_str, eqSt, neS, label_ne, tupS, hk, pfine_spec, Bool.or_self]
    rfl
  · simp only [aggS, Core.cells_len, Core.c0, Core.c1, Core.c2, Core.c3, Core.c4, Core.c5, Core.c6, Core.c7, Core.c8, Core.c9, Core.c10, Core.re, show Nat.beq 11 11 = true from rfl, bind_some', bin_int, eqlI, neqI, lssI, gtrI, leqI, geqI, boolB, notB, onOut_ret, condT, condF, lenA54, lenA55, lenA29, lenA31, lenA9, List.length_map, bin_str, eqSt, neS, label_ne, tupS, hk, pfine_spec, Bool.or_self]
    rfl
  · simp only [aggS, Core.cells_len, Core.c0, Core.c1, Core.c2, Core.c3, Core.c4, Core.c5, Core.c6, Core.c7, Core.c8, Core.c9, Core.c10, Core.re, show Nat.beq 11 11 = true from rfl, bind_some', bin_int, eqlI, neqI, lssI, gtrI, leqI, geqI, boolB, notB, onOut_ret, condT, condF, lenA54, lenA55, lenA29, lenA31, lenA9, List.length_map, bin_str, eqSt, neS, label_ne, tupS, hk, pfine_spec, Bool.or_self]
    rfl
  · simp only [aggS, Core.cells_len, Core.c0, Core.c1, Core.c2, Core.c3, Core.c4, Core.c5, Core.c6, Core.c7, Core.c8, Core.c9, Core.c10, Core.re, show Nat.beq 11 11 = true from rfl, bind_some', bin_int, eqlI, neqI, lssI, gtrI, leqI, geqI, boolB, notB, onOut_ret, condT, condF, lenA54, lenA55, lenA29, lenA31, lenA9, List.length_map, bin_str, eqSt, neS, label_ne, tupS, hk, pfine_spec, Bool.or_self]
    rfl
  · simp only [aggS, Core.cells_len, Core.c0, Core.c1, Core.c2, Core.c3, Core.c4, Core.c5, Core.c6, Core.c7, Core.c8, Core.c9, Core.c10, Core.re, show Nat.beq 11 11 = true from rfl, bind_some', bin_int, eqlI, neqI, lssI, gtrI, leqI, geqI, boolB, notB, onOut_ret, condT, condF, lenA54, lenA55, lenA29, lenA31, lenA9, List.length_map, bin_str, eqSt, neS, label_ne, tupS, hk, pfine_spec, Bool.or_self]
    rfl
  · simp only [aggS, Core.cells_len, Core.c0, Core.c1, Core.c2, Core.c3, Core.c4, Core.c5, Core.c6, Core.c7, Core.c8, Core.c9, Core.c10, Core.re, show Nat.beq 11 11 = true from rfl, bind_some', bin_int, eqlI, neqI, lssI, gtrI, leqI, geqI, boolB, notB, onOut_ret, condT, condF, lenA54, lenA55, lenA29, lenA31, lenA9, List.length_map, bin_str, eqSt, neS, label_ne, tupS, hk, pfine_spec, Bool.or_self]
    rfl
  · simp only [aggS, Core.cells_len, Core.c0, Core.c1, Core.c2, Core.c3, Core.c4, Core.c5, Core.c6, Core.c7, Core.c8, Core.c9, Core.c10, Core.re, show Nat.beq 11 11 = true from rfl, bind_some', bin_int, eqlI, neqI, lssI, gtrI, leqI, geqI, boolB, notB, onOut_ret, condT, condF, lenA54, lenA55, lenA29, lenA31, lenA9, List.length_map, bin_str, eqSt, neS, label_ne, tupS, hk, pfine_spec, Bool.or_self]
    rfl
  · simp only [aggS, Core.cells_len, Core.c0, Core.c1, Core.c2, Core.c3, Core.c4, Core.c5, Core.c6, Core.c7, Core.c8, Core.c9, Core.c10, Core.re, show Nat.beq 11 11 = true from rfl, bind_some', bin_int, eqlI, neqI, lssI, gtrI, leqI, geqI, boolB, notB, onOut_ret, condT, condF, lenA54, lenA55, lenA29, lenA31, lenA9, List.length_map, bin_str, eqSt, neS, label_ne, tupS, hk, pfine_spec, Bool.or_self]
    rfl
  · simp only [aggS, Core.cells_len, Core.c0, Core.c1, Core.c2, Core.c3, Core.c4, Core.c5, Core.c6, Core.c7, Core.c8, Core.c9, Core.c10, Core.re, show Nat.beq 11 11 = true from rfl, bind_some', bin_int, eqlI, neqI, lssI, gtrI, leqI, geqI, boolB, notB, onOut_ret, condT, condF, lenA54, lenA55, lenA29, lenA31, lenA9, List.length_map, bin_str, eqSt, neS, label_ne, tupS, hk, pfine_spec, Bool.or_self]
    rfl
  · simp only [aggS, Core.cells_len, Core.c0, Core.c1, Core.c2, Core.c3, Core.c4, Core.c5, Core.c6, Core.c7, Core.c8, Core.c9, Core.c10, Core.re, show Nat.beq 11 11 = true from rfl, bind_some', bin_int, eqlI, neqI, lssI, gtrI, leqI, geqI, boolB, notB, onOut_ret, condT, condF, lenA54, lenA55, lenA29, lenA31, lenA9, List.length_map, bin_str, eqSt, neS, label_ne, tupS, hk, pfine_spec, Bool.or_self]
    rfl
  · simp only [aggS, Core.cells_len, Core.c0, Core.c1, Core.c2, Core.c3, Core.c4, Core.c5, Core.c6, Core.c7, Core.c8, Core.c9, Core.c10, Core.re, show Nat.beq 11 11 = true from rfl, bind_some', bin_int, eqlI, neqI, lssI, gtrI, leqI, geqI, boolB, notB, onOut_ret, condT, condF, lenA54, lenA55, lenA29, lenA31, lenA9, List.length_map, bin_str, eqSt, neS, label_ne, tupS, hk, pfine_spec, Bool.or_self]
    rfl
  · have e1 := kne (j := 1) hk (by decide) (by decide)
    have e2 := kne (j := 2) hk (by decide) (by decide)
    have e3 := kne (j := 3) hk (by decide) (by decide)
    have e4 := kne (j := 4) hk (by decide) (by decide)
    have e5 := kne (j := 5) hk (by decide) (by decide)
    have e6 := kne (j := 6) hk (by decide) (by decide)
    have e7 := kne (j := 7) hk (by decide) (by decide)
    have e8 := kne (j := 8) hk (by decide) (by decide)
    have e9 := kne (j := 9) hk (by decide) (by decide)
    have e10 := kne (j := 10) hk (by decide) (by decide)
    have e11 := kne (j := 11) hk (by decide) (by decide)
    have e12 := kne (j := 12) hk (by decide) (by decide)
    have e13 := kne (j := 13) hk (by decide) (by decide)
    simp only [aggS, Core.cells_len, Core.c0, Core.c1, Core.c2, Core.c3, Core.c4, Core.c5, Core.c6, Core.c7, Core.c8, Core.c9, Core.c10, Core.re, show Nat.beq 11 11 = true from rfl, bind_some', bin_int, eqlI, neqI, lssI, gtrI, leqI, geqI, boolB, notB, onOut_ret, condT, condF, lenA54, lenA55, lenA29, lenA31, lenA9, List.length_map, bin_str, eqSt, neS, label_ne, tupS, e1, e2, e3, e4, e5, e6, e7, e8, e9, e10, e11, e12, e13, Bool.or_self, cond_false]
theorem placed_ne (c : Core) : binAV E .neq 25 (.agg [.lit (.string c.df), .lit (.int .i64 c.nd)]) (.agg [.lit (.string ByteArray.empty), .lit (.int .i64 0)]) = some (.lit (.bool (!c.placed))) := by rw [label_ne]; rfl
theorem numbered89 (c : Core) (h : Heap) : evw E 89 [.agg c.cells] h = some (.ret (.lit (.bool c.numbered)), h) := by
  refine evw_run primsC 0 rfl rfl rfl ?_
  rw [nf89]
  unfold Core.numbered
  rcases kcases c.k with hk | hk | hk | hk | hk | hk | hk | hk | hk | hk | hk | hk | hk | hk
  · simp only [aggS, Core.cells_len, Core.c0, Core.c1, Core.c2, Core.c3, Core.c4, Core.c5, Core.c6, Core.c7, Core.c8, Core.c9, Core.c10, Core.re, show Nat.beq 11 11 = true from rfl, bind_some', bin_int, eqlI, neqI, lssI, gtrI, leqI, geqI, boolB, notB, onOut_ret, condT, condF, lenA54, lenA55, lenA29, lenA31, lenA9, List.length_map, bin_str, eqSt, neS, placed_ne, tupS, hk]
    cases c.m != 0 <;> cases c.inn <;> cases c.placed <;> cases c.n == 0 <;> cases c.n == 1 <;> cases decide (c.n ≥ 1) <;> rfl
  · simp only [aggS, Core.cells_len, Core.c0, Core.c1, Core.c2, Core.c3, Core.c4, Core.c5, Core.c6, Core.c7, Core.c8, Core.c9, Core.c10, Core.re, show Nat.beq 11 11 = true from rfl, bind_some', bin_int, eqlI, neqI, lssI, gtrI, leqI, geqI, boolB, notB, onOut_ret, condT, condF, lenA54, lenA55, lenA29, lenA31, lenA9, List.length_map, bin_str, eqSt, neS, placed_ne, tupS, hk]
    cases c.m != 0 <;> cases c.inn <;> cases c.placed <;> cases c.n == 0 <;> cases c.n == 1 <;> cases decide (c.n ≥ 1) <;> rfl
  · simp only [aggS, Core.cells_len, Core.c0, Core.c1, Core.c2, Core.c3, Core.c4, Core.c5, Core.c6, Core.c7, Core.c8, Core.c9, Core.c10, Core.re, show Nat.beq 11 11 = true from rfl, bind_some', bin_int, eqlI, neqI, lssI, gtrI, leqI, geqI, boolB, notB, onOut_ret, condT, condF, lenA54, lenA55, lenA29, lenA31, lenA9, List.length_map, bin_str, eqSt, neS, placed_ne, tupS, hk]
    cases c.m != 0 <;> cases c.inn <;> cases c.placed <;> cases c.n == 0 <;> cases c.n == 1 <;> cases decide (c.n ≥ 1) <;> rfl
  · simp only [aggS, Core.cells_len, Core.c0, Core.c1, Core.c2, Core.c3, Core.c4, Core.c5, Core.c6, Core.c7, Core.c8, Core.c9, Core.c10, Core.re, show Nat.beq 11 11 = true from rfl, bind_some', bin_int, eqlI, neqI, lssI, gtrI, leqI, geqI, boolB, notB, onOut_ret, condT, condF, lenA54, lenA55, lenA29, lenA31, lenA9, List.length_map, bin_str, eqSt, neS, placed_ne, tupS, hk]
    cases c.m != 0 <;> cases c.inn <;> cases c.placed <;> cases c.n == 0 <;> cases c.n == 1 <;> cases decide (c.n ≥ 1) <;> rfl
  · simp only [aggS, Core.cells_len, Core.c0, Core.c1, Core.c2, Core.c3, Core.c4, Core.c5, Core.c6, Core.c7, Core.c8, Core.c9, Core.c10, Core.re, show Nat.beq 11 11 = true from rfl, bind_some', bin_int, eqlI, neqI, lssI, gtrI, leqI, geqI, boolB, notB, onOut_ret, condT, condF, lenA54, lenA55, lenA29, lenA31, lenA9, List.length_map, bin_str, eqSt, neS, placed_ne, tupS, hk]
    cases c.m != 0 <;> cases c.inn <;> cases c.placed <;> cases c.n == 0 <;> cases c.n == 1 <;> cases decide (c.n ≥ 1) <;> rfl
  · simp only [aggS, Core.cells_len, Core.c0, Core.c1, Core.c2, Core.c3, Core.c4, Core.c5, Core.c6, Core.c7, Core.c8, Core.c9, Core.c10, Core.re, show Nat.beq 11 11 = true from rfl, bind_some', bin_int, eqlI, neqI, lssI, gtrI, leqI, geqI, boolB, notB, onOut_ret, condT, condF, lenA54, lenA55, lenA29, lenA31, lenA9, List.length_map, bin_str, eqSt, neS, placed_ne, tupS, hk]
    cases c.m != 0 <;> cases c.inn <;> cases c.placed <;> cases c.n == 0 <;> cases c.n == 1 <;> cases decide (c.n ≥ 1) <;> rfl
  · simp only [aggS, Core.cells_len, Core.c0, Core.c1, Core.c2, Core.c3, Core.c4, Core.c5, Core.c6, Core.c7, Core.c8, Core.c9, Core.c10, Core.re, show Nat.beq 11 11 = true from rfl, bind_some', bin_int, eqlI, neqI, lssI, gtrI, leqI, geqI, boolB, notB, onOut_ret, condT, condF, lenA54, lenA55, lenA29, lenA31, lenA9, List.length_map, bin_str, eqSt, neS, placed_ne, tupS, hk]
    cases c.m != 0 <;> cases c.inn <;> cases c.placed <;> cases c.n == 0 <;> cases c.n == 1 <;> cases decide (c.n ≥ 1) <;> rfl
  · simp only [aggS, Core.cells_len, Core.c0, Core.c1, Core.c2, Core.c3, Core.c4, Core.c5, Core.c6, Core.c7, Core.c8, Core.c9, Core.c10, Core.re, show Nat.beq 11 11 = true from rfl, bind_some', bin_int, eqlI, neqI, lssI, gtrI, leqI, geqI, boolB, notB, onOut_ret, condT, condF, lenA54, lenA55, lenA29, lenA31, lenA9, List.length_map, bin_str, eqSt, neS, placed_ne, tupS, hk]
    cases c.m != 0 <;> cases c.inn <;> cases c.placed <;> cases c.n == 0 <;> cases c.n == 1 <;> cases decide (c.n ≥ 1) <;> rfl
  · simp only [aggS, Core.cells_len, Core.c0, Core.c1, Core.c2, Core.c3, Core.c4, Core.c5, Core.c6, Core.c7, Core.c8, Core.c9, Core.c10, Core.re, show Nat.beq 11 11 = true from rfl, bind_some', bin_int, eqlI, neqI, lssI, gtrI, leqI, geqI, boolB, notB, onOut_ret, condT, condF, lenA54, lenA55, lenA29, lenA31, lenA9, List.length_map, bin_str, eqSt, neS, placed_ne, tupS, hk]
    cases c.m != 0 <;> cases c.inn <;> cases c.placed <;> cases c.n == 0 <;> cases c.n == 1 <;> cases decide (c.n ≥ 1) <;> rfl
  · simp only [aggS, Core.cells_len, Core.c0, Core.c1, Core.c2, Core.c3, Core.c4, Core.c5, Core.c6, Core.c7, Core.c8, Core.c9, Core.c10, Core.re, show Nat.beq 11 11 = true from rfl, bind_some', bin_int, eqlI, neqI, lssI, gtrI, leqI, geqI, boolB, notB, onOut_ret, condT, condF, lenA54, lenA55, lenA29, lenA31, lenA9, List.length_map, bin_str, eqSt, neS, placed_ne, tupS, hk]
    cases c.m != 0 <;> cases c.inn <;> cases c.placed <;> cases c.n == 0 <;> cases c.n == 1 <;> cases decide (c.n ≥ 1) <;> rfl
  · simp only [aggS, Core.cells_len, Core.c0, Core.c1, Core.c2, Core.c3, Core.c4, Core.c5, Core.c6, Core.c7, Core.c8, Core.c9, Core.c10, Core.re, show Nat.beq 11 11 = true from rfl, bind_some', bin_int, eqlI, neqI, lssI, gtrI, leqI, geqI, boolB, notB, onOut_ret, condT, condF, lenA54, lenA55, lenA29, lenA31, lenA9, List.length_map, bin_str, eqSt, neS, placed_ne, tupS, hk]
    cases c.m != 0 <;> cases c.inn <;> cases c.placed <;> cases c.n == 0 <;> cases c.n == 1 <;> cases decide (c.n ≥ 1) <;> rfl
  · simp only [aggS, Core.cells_len, Core.c0, Core.c1, Core.c2, Core.c3, Core.c4, Core.c5, Core.c6, Core.c7, Core.c8, Core.c9, Core.c10, Core.re, show Nat.beq 11 11 = true from rfl, bind_some', bin_int, eqlI, neqI, lssI, gtrI, leqI, geqI, boolB, notB, onOut_ret, condT, condF, lenA54, lenA55, lenA29, lenA31, lenA9, List.length_map, bin_str, eqSt, neS, placed_ne, tupS, hk]
    cases c.m != 0 <;> cases c.inn <;> cases c.placed <;> cases c.n == 0 <;> cases c.n == 1 <;> cases decide (c.n ≥ 1) <;> rfl
  · simp only [aggS, Core.cells_len, Core.c0, Core.c1, Core.c2, Core.c3, Core.c4, Core.c5, Core.c6, Core.c7, Core.c8, Core.c9, Core.c10, Core.re, show Nat.beq 11 11 = true from rfl, bind_some', bin_int, eqlI, neqI, lssI, gtrI, leqI, geqI, boolB, notB, onOut_ret, condT, condF, lenA54, lenA55, lenA29, lenA31, lenA9, List.length_map, bin_str, eqSt, neS, placed_ne, tupS, hk]
    cases c.m != 0 <;> cases c.inn <;> cases c.placed <;> cases c.n == 0 <;> cases c.n == 1 <;> cases decide (c.n ≥ 1) <;> rfl
  · have e1 := kne (j := 1) hk (by decide) (by decide)
    have e2 := kne (j := 2) hk (by decide) (by decide)
    have e3 := kne (j := 3) hk (by decide) (by decide)
    have e4 := kne (j := 4) hk (by decide) (by decide)
    have e5 := kne (j := 5) hk (by decide) (by decide)
    have e6 := kne (j := 6) hk (by decide) (by decide)
    have e7 := kne (j := 7) hk (by decide) (by decide)
    have e8 := kne (j := 8) hk (by decide) (by decide)
    have e9 := kne (j := 9) hk (by decide) (by decide)
    have e10 := kne (j := 10) hk (by decide) (by decide)
    have e11 := kne (j := 11) hk (by decide) (by decide)
    have e12 := kne (j := 12) hk (by decide) (by decide)
    have e13 := kne (j := 13) hk (by decide) (by decide)
    simp only [aggS, Core.cells_len, Core.c0, Core.c1, Core.c2, Core.c3, Core.c4, Core.c5, Core.c6, Core.c7, Core.c8, Core.c9, Core.c10, Core.re, show Nat.beq 11 11 = true from rfl, bind_some', bin_int, eqlI, neqI, lssI, gtrI, leqI, geqI, boolB, notB, onOut_ret, condT, condF, lenA54, lenA55, lenA29, lenA31, lenA9, List.length_map, bin_str, eqSt, neS, placed_ne, tupS, e1, e2, e3, e4, e5, e6, e7, e8, e9, e10, e11, e12, e13]
    cases c.m != 0 <;> cases c.inn <;> cases c.placed <;> cases c.n == 0 <;> rfl
theorem bearing90 (c : Core) (ok : c.labels.length ≤ maxLen) (h : Heap) : evw E 90 [.agg c.cells] h = some (.ret (.lit (.bool c.bearing)), h) := by
  refine evw_run primsC 0 rfl rfl rfl ?_
  rw [nf90]
  unfold Core.bearing
  rcases kcases c.k with hk | hk | hk | hk | hk | hk | hk | hk | hk | hk | hk | hk | hk | hk
  · simp only [aggS, Core.cells_len, Core.c0, Core.c1, Core.c2, Core.c3, Core.c4, Core.c5, Core.c6, Core.c7, Core.c8, Core.c9, Core.c10, Core.re, show Nat.beq 11 11 = true from rfl, bind_some', bin_int, eqlI, neqI, lssI, gtrI, leqI, geqI, boolB, notB, onOut_ret, condT, condF, lenA54, lenA55, lenA29, lenA31, lenA9, List.length_map, bin_str, eqSt, neS, label_ne, tupS, hk, prising_spec _ ok]
    try rfl
  · simp only [aggS, Core.cells_len, Core.c0, Core.c1, Core.c2, Core.c3, Core.c4, Core.c5, Core.c6, Core.c7, Core.c8, Core.c9, Core.c10, Core.re, show Nat.beq 11 11 = true from rfl, bind_some', bin_int, eqlI, neqI, lssI, gtrI, leqI, geqI, boolB, notB, onOut_ret, condT, condF, lenA54, lenA55, lenA29, lenA31, lenA9, List.length_map, bin_str, eqSt, neS, label_ne, tupS, hk, prising_spec _ ok]
    try rfl
  · simp only [aggS, Core.cells_len, Core.c0, Core.c1, Core.c2, Core.c3, Core.c4, Core.c5, Core.c6, Core.c7, Core.c8, Core.c9, Core.c10, Core.re, show Nat.beq 11 11 = true from rfl, bind_some', bin_int, eqlI, neqI, lssI, gtrI, leqI, geqI, boolB, notB, onOut_ret, condT, condF, lenA54, lenA55, lenA29, lenA31, lenA9, List.length_map, bin_str, eqSt, neS, label_ne, tupS, hk, prising_spec _ ok]
    try rfl
  · simp only [aggS, Core.cells_len, Core.c0, Core.c1, Core.c2, Core.c3, Core.c4, Core.c5, Core.c6, Core.c7, Core.c8, Core.c9, Core.c10, Core.re, show Nat.beq 11 11 = true from rfl, bind_some', bin_int, eqlI, neqI, lssI, gtrI, leqI, geqI, boolB, notB, onOut_ret, condT, condF, lenA54, lenA55, lenA29, lenA31, lenA9, List.length_map, bin_str, eqSt, neS, label_ne, tupS, hk, prising_spec _ ok]
    try rfl
  · simp only [aggS, Core.cells_len, Core.c0, Core.c1, Core.c2, Core.c3, Core.c4, Core.c5, Core.c6, Core.c7, Core.c8, Core.c9, Core.c10, Core.re, show Nat.beq 11 11 = true from rfl, bind_some', bin_int, eqlI, neqI, lssI, gtrI, leqI, geqI, boolB, notB, onOut_ret, condT, condF, lenA54, lenA55, lenA29, lenA31, lenA9, List.length_map, bin_str, eqSt, neS, label_ne, tupS, hk, prising_spec _ ok]
    try rfl
  · simp only [aggS, Core.cells_len, Core.c0, Core.c1, Core.c2, Core.c3, Core.c4, Core.c5, Core.c6, Core.c7, Core.c8, Core.c9, Core.c10, Core.re, show Nat.beq 11 11 = true from rfl, bind_some', bin_int, eqlI, neqI, lssI, gtrI, leqI, geqI, boolB, notB, onOut_ret, condT, condF, lenA54, lenA55, lenA29, lenA31, lenA9, List.length_map, bin_str, eqSt, neS, label_ne, tupS, hk, prising_spec _ ok]
    try rfl
  · simp only [aggS, Core.cells_len, Core.c0, Core.c1, Core.c2, Core.c3, Core.c4, Core.c5, Core.c6, Core.c7, Core.c8, Core.c9, Core.c10, Core.re, show Nat.beq 11 11 = true from rfl, bind_some', bin_int, eqlI, neqI, lssI, gtrI, leqI, geqI, boolB, notB, onOut_ret, condT, condF, lenA54, lenA55, lenA29, lenA31, lenA9, List.length_map, bin_str, eqSt, neS, label_ne, tupS, hk, prising_spec _ ok]
    try rfl
  · simp only [aggS, Core.cells_len, Core.c0, Core.c1, Core.c2, Core.c3, Core.c4, Core.c5, Core.c6, Core.c7, Core.c8, Core.c9, Core.c10, Core.re, show Nat.beq 11 11 = true from rfl, bind_some', bin_int, eqlI, neqI, lssI, gtrI, leqI, geqI, boolB, notB, onOut_ret, condT, condF, lenA54, lenA55, lenA29, lenA31, lenA9, List.length_map, bin_str, eqSt, neS, label_ne, tupS, hk, prising_spec _ ok]
    try rfl
  · simp only [aggS, Core.cells_len, Core.c0, Core.c1, Core.c2, Core.c3, Core.c4, Core.c5, Core.c6, Core.c7, Core.c8, Core.c9, Core.c10, Core.re, show Nat.beq 11 11 = true from rfl, bind_some', bin_int, eqlI, neqI, lssI, gtrI, leqI, geqI, boolB, notB, onOut_ret, condT, condF, lenA54, lenA55, lenA29, lenA31, lenA9, List.length_map, bin_str, eqSt, neS, label_ne, tupS, hk, prising_spec _ ok]
    try rfl
    cases (c.kids.length : Int) == (c.labels.length : Int) <;> rfl
  · simp only [aggS, Core.cells_len, Core.c0, Core.c1, Core.c2, Core.c3, Core.c4, Core.c5, Core.c6, Core.c7, Core.c8, Core.c9, Core.c10, Core.re, show Nat.beq 11 11 = true from rfl, bind_some', bin_int, eqlI, neqI, lssI, gtrI, leqI, geqI, boolB, notB, onOut_ret, condT, condF, lenA54, lenA55, lenA29, lenA31, lenA9, List.length_map, bin_str, eqSt, neS, label_ne, tupS, hk, prising_spec _ ok]
    try rfl
  · simp only [aggS, Core.cells_len, Core.c0, Core.c1, Core.c2, Core.c3, Core.c4, Core.c5, Core.c6, Core.c7, Core.c8, Core.c9, Core.c10, Core.re, show Nat.beq 11 11 = true from rfl, bind_some', bin_int, eqlI, neqI, lssI, gtrI, leqI, geqI, boolB, notB, onOut_ret, condT, condF, lenA54, lenA55, lenA29, lenA31, lenA9, List.length_map, bin_str, eqSt, neS, label_ne, tupS, hk, prising_spec _ ok]
    try rfl
  · simp only [aggS, Core.cells_len, Core.c0, Core.c1, Core.c2, Core.c3, Core.c4, Core.c5, Core.c6, Core.c7, Core.c8, Core.c9, Core.c10, Core.re, show Nat.beq 11 11 = true from rfl, bind_some', bin_int, eqlI, neqI, lssI, gtrI, leqI, geqI, boolB, notB, onOut_ret, condT, condF, lenA54, lenA55, lenA29, lenA31, lenA9, List.length_map, bin_str, eqSt, neS, label_ne, tupS, hk, prising_spec _ ok]
    try rfl
  · simp only [aggS, Core.cells_len, Core.c0, Core.c1, Core.c2, Core.c3, Core.c4, Core.c5, Core.c6, Core.c7, Core.c8, Core.c9, Core.c10, Core.re, show Nat.beq 11 11 = true from rfl, bind_some', bin_int, eqlI, neqI, lssI, gtrI, leqI, geqI, boolB, notB, onOut_ret, condT, condF, lenA54, lenA55, lenA29, lenA31, lenA9, List.length_map, bin_str, eqSt, neS, label_ne, tupS, hk, prising_spec _ ok]
    try rfl
  · have e1 := kne (j := 1) hk (by decide) (by decide)
    have e2 := kne (j := 2) hk (by decide) (by decide)
    have e3 := kne (j := 3) hk (by decide) (by decide)
    have e4 := kne (j := 4) hk (by decide) (by decide)
    have e5 := kne (j := 5) hk (by decide) (by decide)
    have e6 := kne (j := 6) hk (by decide) (by decide)
    have e7 := kne (j := 7) hk (by decide) (by decide)
    have e8 := kne (j := 8) hk (by decide) (by decide)
    have e9 := kne (j := 9) hk (by decide) (by decide)
    have e10 := kne (j := 10) hk (by decide) (by decide)
    have e11 := kne (j := 11) hk (by decide) (by decide)
    have e12 := kne (j := 12) hk (by decide) (by decide)
    have e13 := kne (j := 13) hk (by decide) (by decide)
    simp only [aggS, Core.cells_len, Core.c0, Core.c1, Core.c2, Core.c3, Core.c4, Core.c5, Core.c6, Core.c7, Core.c8, Core.c9, Core.c10, Core.re, show Nat.beq 11 11 = true from rfl, bind_some', bin_int, eqlI, neqI, lssI, gtrI, leqI, geqI, boolB, notB, onOut_ret, condT, condF, lenA54, lenA55, lenA29, lenA31, lenA9, List.length_map, bin_str, eqSt, neS, label_ne, tupS, e1, e2, e3, e4, e5, e6, e7, e8, e9, e10, e11, e12, e13]
    try rfl
theorem notright142 (t : Ty) (h : Heap) (ok : t.Ok) : evw E 142 [.agg t.cells] h = some (.ret (.lit (.bool (!t.right))), h) := by
  refine evw_run primsC 0 rfl rfl rfl ?_
  rw [nf142]
  simp only [aggS, bind_some', Ty.cells_len, Ty.refold, show Nat.beq 5 5 = true from rfl, condT, pright_spec t h ok, onOut_ret, notB]
theorem gtr_not0 (x : Int) : decide (x > 3) = !decide (x ≤ 3) := by
  by_cases h : x ≤ 3
  · rw [decide_eq_true h, decide_eq_false (by omega)]; rfl
  · rw [decide_eq_false h, decide_eq_true (by omega)]; rfl
theorem not_any {α : Type} (p : α → Bool) (l : List α) : (!(l.any fun x => !p x)) = l.all p := by
  induction l with
  | nil => rfl
  | cons x l ih => rw [List.any_cons, List.all_cons, ← ih]; cases p x <;> simp
theorem typed91 (c : Core) (oc : c.Ok) (h : Heap) : evw E 91 [.agg c.cells] h = some (.ret (.lit (.bool c.typed)), h) := by
  refine evw_run primsC 0 rfl rfl rfl ?_
  have hall := any_spec (fun t => !t.right) (.fn 142 [] []) h c.types oc.tlen fun t ht => by rw [apply_fn]; exact notright142 t h (oc.ty ht)
  rw [nf91]
  unfold Core.typed
  rcases kcases c.k with hk | hk | hk | hk | hk | hk | hk | hk | hk | hk | hk | hk | hk | hk
  · simp only [aggS, Core.cells_len, Core.c0, Core.c1, Core.c2, Core.c3, Core.c4, Core.c5, Core.c6, Core.c7, Core.c8, Core.c9, Core.c10, Core.re, show Nat.beq 11 11 = true from rfl, bind_some', bin_int, eqlI, neqI, lssI, gtrI, leqI, geqI, boolB, notB, onOut_ret, condT, condF, lenA54, lenA55, lenA29, lenA31, lenA9, List.length_map, bin_str, eqSt, neS, label_ne, tupS, hk]
    try rfl
  · simp only [aggS, Core.cells_len, Core.c0, Core.c1, Core.c2, Core.c3, Core.c4, Core.c5, Core.c6, Core.c7, Core.c8, Core.c9, Core.c10, Core.re, show Nat.beq 11 11 = true from rfl, bind_some', bin_int, eqlI, neqI, lssI, gtrI, leqI, geqI, boolB, notB, onOut_ret, condT, condF, lenA54, lenA55, lenA29, lenA31, lenA9, List.length_map, bin_str, eqSt, neS, label_ne, tupS, hk]
    try rfl
  · simp only [aggS, Core.cells_len, Core.c0, Core.c1, Core.c2, Core.c3, Core.c4, Core.c5, Core.c6, Core.c7, Core.c8, Core.c9, Core.c10, Core.re, show Nat.beq 11 11 = true from rfl, bind_some', bin_int, eqlI, neqI, lssI, gtrI, leqI, geqI, boolB, notB, onOut_ret, condT, condF, lenA54, lenA55, lenA29, lenA31, lenA9, List.length_map, bin_str, eqSt, neS, label_ne, tupS, hk]
    try rfl
  · simp only [aggS, Core.cells_len, Core.c0, Core.c1, Core.c2, Core.c3, Core.c4, Core.c5, Core.c6, Core.c7, Core.c8, Core.c9, Core.c10, Core.re, show Nat.beq 11 11 = true from rfl, bind_some', bin_int, eqlI, neqI, lssI, gtrI, leqI, geqI, boolB, notB, onOut_ret, condT, condF, lenA54, lenA55, lenA29, lenA31, lenA9, List.length_map, bin_str, eqSt, neS, label_ne, tupS, hk]
    try rfl
  · simp only [aggS, Core.cells_len, Core.c0, Core.c1, Core.c2, Core.c3, Core.c4, Core.c5, Core.c6, Core.c7, Core.c8, Core.c9, Core.c10, Core.re, show Nat.beq 11 11 = true from rfl, bind_some', bin_int, eqlI, neqI, lssI, gtrI, leqI, geqI, boolB, notB, onOut_ret, condT, condF, lenA54, lenA55, lenA29, lenA31, lenA9, List.length_map, bin_str, eqSt, neS, label_ne, tupS, hk]
    try rfl
  · simp only [aggS, Core.cells_len, Core.c0, Core.c1, Core.c2, Core.c3, Core.c4, Core.c5, Core.c6, Core.c7, Core.c8, Core.c9, Core.c10, Core.re, show Nat.beq 11 11 = true from rfl, bind_some', bin_int, eqlI, neqI, lssI, gtrI, leqI, geqI, boolB, notB, onOut_ret, condT, condF, lenA54, lenA55, lenA29, lenA31, lenA9, List.length_map, bin_str, eqSt, neS, label_ne, tupS, hk]
    try rfl
  · simp only [aggS, Core.cells_len, Core.c0, Core.c1, Core.c2, Core.c3, Core.c4, Core.c5, Core.c6, Core.c7, Core.c8, Core.c9, Core.c10, Core.re, show Nat.beq 11 11 = true from rfl, bind_some', bin_int, eqlI, neqI, lssI, gtrI, leqI, geqI, boolB, notB, onOut_ret, condT, condF, lenA54, lenA55, lenA29, lenA31, lenA9, List.length_map, bin_str, eqSt, neS, label_ne, tupS, hk]
    try rfl
  · simp only [aggS, Core.cells_len, Core.c0, Core.c1, Core.c2, Core.c3, Core.c4, Core.c5, Core.c6, Core.c7, Core.c8, Core.c9, Core.c10, Core.re, show Nat.beq 11 11 = true from rfl, bind_some', bin_int, eqlI, neqI, lssI, gtrI, leqI, geqI, boolB, notB, onOut_ret, condT, condF, lenA54, lenA55, lenA29, lenA31, lenA9, List.length_map, bin_str, eqSt, neS, label_ne, tupS, hk]
    try rfl
  · simp only [aggS, Core.cells_len, Core.c0, Core.c1, Core.c2, Core.c3, Core.c4, Core.c5, Core.c6, Core.c7, Core.c8, Core.c9, Core.c10, Core.re, show Nat.beq 11 11 = true from rfl, bind_some', bin_int, eqlI, neqI, lssI, gtrI, leqI, geqI, boolB, notB, onOut_ret, condT, condF, lenA54, lenA55, lenA29, lenA31, lenA9, List.length_map, bin_str, eqSt, neS, label_ne, tupS, hk]
    try rfl
  · simp only [aggS, Core.cells_len, Core.c0, Core.c1, Core.c2, Core.c3, Core.c4, Core.c5, Core.c6, Core.c7, Core.c8, Core.c9, Core.c10, Core.re, show Nat.beq 11 11 = true from rfl, bind_some', bin_int, eqlI, neqI, lssI, gtrI, leqI, geqI, boolB, notB, onOut_ret, condT, condF, lenA54, lenA55, lenA29, lenA31, lenA9, List.length_map, bin_str, eqSt, neS, label_ne, tupS, hk]
    try rfl
  · simp only [aggS, Core.cells_len, Core.c0, Core.c1, Core.c2, Core.c3, Core.c4, Core.c5, Core.c6, Core.c7, Core.c8, Core.c9, Core.c10, Core.re, show Nat.beq 11 11 = true from rfl, bind_some', bin_int, eqlI, neqI, lssI, gtrI, leqI, geqI, boolB, notB, onOut_ret, condT, condF, lenA54, lenA55, lenA29, lenA31, lenA9, List.length_map, bin_str, eqSt, neS, label_ne, tupS, hk]
    try rfl
  · simp only [aggS, Core.cells_len, Core.c0, Core.c1, Core.c2, Core.c3, Core.c4, Core.c5, Core.c6, Core.c7, Core.c8, Core.c9, Core.c10, Core.re, show Nat.beq 11 11 = true from rfl, bind_some', bin_int, eqlI, neqI, lssI, gtrI, leqI, geqI, boolB, notB, onOut_ret, condT, condF, lenA54, lenA55, lenA29, lenA31, lenA9, List.length_map, bin_str, eqSt, neS, label_ne, tupS, hk]
    cases e : (c.types.length : Int) == 2 <;> simp [bne, e, condT, condF, hall, onOut_ret, notB, not_any]
  · simp only [aggS, Core.cells_len, Core.c0, Core.c1, Core.c2, Core.c3, Core.c4, Core.c5, Core.c6, Core.c7, Core.c8, Core.c9, Core.c10, Core.re, show Nat.beq 11 11 = true from rfl, bind_some', bin_int, eqlI, neqI, lssI, gtrI, leqI, geqI, boolB, notB, onOut_ret, condT, condF, lenA54, lenA55, lenA29, lenA31, lenA9, List.length_map, bin_str, eqSt, neS, label_ne, tupS, hk]
    rw [gtr_not0]
    cases e : decide ((c.types.length : Int) ≤ 3) <;> simp [condT, condF, hall, onOut_ret, notB, not_any]
  · have e1 := kne (j := 1) hk (by decide) (by decide)
    have e2 := kne (j := 2) hk (by decide) (by decide)
    have e3 := kne (j := 3) hk (by decide) (by decide)
    have e4 := kne (j := 4) hk (by decide) (by decide)
    have e5 := kne (j := 5) hk (by decide) (by decide)
    have e6 := kne (j := 6) hk (by decide) (by decide)
    have e7 := kne (j := 7) hk (by decide) (by decide)
    have e8 := kne (j := 8) hk (by decide) (by decide)
    have e9 := kne (j := 9) hk (by decide) (by decide)
    have e10 := kne (j := 10) hk (by decide) (by decide)
    have e11 := kne (j := 11) hk (by decide) (by decide)
    have e12 := kne (j := 12) hk (by decide) (by decide)
    have e13 := kne (j := 13) hk (by decide) (by decide)
    simp only [aggS, Core.cells_len, Core.c0, Core.c1, Core.c2, Core.c3, Core.c4, Core.c5, Core.c6, Core.c7, Core.c8, Core.c9, Core.c10, Core.re, show Nat.beq 11 11 = true from rfl, bind_some', bin_int, eqlI, neqI, lssI, gtrI, leqI, geqI, boolB, notB, onOut_ret, condT, condF, lenA54, lenA55, lenA29, lenA31, lenA9, List.length_map, bin_str, eqSt, neS, label_ne, tupS, e1, e2, e3, e4, e5, e6, e7, e8, e9, e10, e11, e12, e13]
    try rfl
end Go.Sh.T

/- core.Right, limbeckref26.Right: the same. -/
namespace Go.Sh.T
open Go Go.Sh
set_option linter.unusedSimpArgs false
set_option linter.unusedVariables false
set_option maxRecDepth 100000

theorem anyC (P : Core → Bool) (fv : AV) (H : Heap) (l : List Core) (hl : l.length ≤ maxLen) (hc : ∀ a ∈ l, applyV (evw E) fv [.agg a.cells] H = some (.ret (.lit (.bool (P a))), H)) : evw E 92 [.sl 11 (l.map Core.cells), fv] H = some (.ret (.lit (.bool (l.any P))), H) := by
  have hl : l.length ≤ 9223372036854775807 := hl
  have loop : ∀ (m i : Nat), i ≤ l.length → l.length < m + i → ∃ r : Int, Lp143_0 (evw E) (l.length + 1) H m H (.sl 11 (l.map Core.cells)) fv (.lit (.int .i64 (l.length : Int))) (.lit (.int .i64 (i : Int))) = some (.ret (.lit (.int .i64 r)), H) ∧ decide (r ≥ 0) = (l.drop i).any P := by
    intro m
    induction m with
    | zero => intro i h1 h2; omega
    | succ m ih =>
      intro i h1 h2
      rw [Lp143_0_succ, bin_int, lssI, bind_some', boolB, bind_some']
      by_cases hi : i < l.length
      · rw [ltT hi, condT, indexA_map _ _ _ _ hi, bind_some', partA_full (Core.cells_len _), bind_some', hc _ (List.getElem_mem hi), onOut_ret, boolB, bind_some', List.drop_eq_getElem_cons hi, List.any_cons]
        cases e : P l[i] with
        | true => exact ⟨i, by rw [condT], by rw [Bool.true_or]; simp⟩
        | false =>
          rw [condF, bin_int, addI, bind_some', incI (by omega), Bool.false_or]
          exact ih (i + 1) hi (by omega)
      · exact ⟨-1, by rw [ltF hi, condF], by rw [List.drop_of_length_le (by omega)]; rfl⟩
  obtain ⟨r, h1, h2⟩ := loop (l.length + 1) 0 (Nat.zero_le _) (by omega)
  rw [List.drop_zero] at h2
  have h143 : evw E 143 [.sl 11 (l.map Core.cells), fv] H = some (.ret (.lit (.int .i64 r)), H) := by
    refine evw_run primsC (l.length + 1) rfl rfl rfl ?_
    rw [nf143, lenA54, bind_some', List.length_map]
    exact h1
  refine evw_run primsC 0 rfl rfl rfl ?_
  rw [nf92, h143, onOut_ret, bin_int, geqI, bind_some', h2]

theorem gt0_nil {α : Type} (l : List α) : decide ((l.length : Int) > 0) = !decide (l = []) := by
  cases l with
  | nil => rfl
  | cons x l => rw [decide_eq_true (by rw [List.length_cons]; omega), decide_eq_false (by intro h; cases h)]; rfl

theorem Core.kid_lt0 {c x : Core} (h : x ∈ c.kids) : SizeOf.sizeOf x < SizeOf.sizeOf c := by
  have := List.sizeOf_lt_of_mem h
  cases c; simp only [Core.mk.sizeOf_spec] at *; omega
theorem right38 : ∀ (c : Core) (h : Heap), c.Ok → evw E 38 [.agg c.cells] h = some (.ret (.lit (.bool c.right)), h)
  | c, h, ok => by
    have h92 : evw E 92 [.sl 11 (c.kids.map Core.cells), .fn 93 [] []] h = some (.ret (.lit (.bool (c.kids.any fun x => !x.right))), h) := by
      refine anyC (fun x => !x.right) (.fn 93 [] []) h c.kids ok.len fun a ha => ?_
      have hrec := right38 a h (ok.kid ha)
      rw [apply_fn]
      refine evw_run primsC 0 rfl rfl rfl ?_
      rw [nf93, aggS, bind_some', Core.cells_len, show Nat.beq 11 11 = true from rfl, condT, Core.re, hrec, onOut_ret, notB, bind_some']
    refine evw_run primsC 0 rfl rfl rfl ?_
    rw [nf38]
    simp only [aggS, Core.cells_len, Core.re, show Nat.beq 11 11 = true from rfl, bind_some', condT]
    simp only [Core.c0, Core.c8, Core.c9, Core.c10, bind_some', bin_int, neqI, gtrI, boolB, onOut_ret, lenA55, lenA31, List.length_map, worded88, numbered89, bearing90 c ok.lab, typed91 c ok, h92, notB, gt0_nil, not_any]
    rw [Core.right_eq, Core.rightL_all]
    unfold Core.own
    simp only [bne]
    cases decide (c.vals = []) <;> cases c.k == 9 <;> cases decide (c.labels = []) <;> cases c.worded <;> cases c.numbered <;> cases c.bearing <;> cases c.typed <;> rfl
  termination_by c => SizeOf.sizeOf c
  decreasing_by exact Core.kid_lt0 ha

/- the reference -/
def tupN (a b c d : Int) : AV := .tup [.lit (.int .i64 a), .lit (.int .i64 b), .lit (.int .i64 c), .lit (.int .i64 d)]
def Core.cnt (c : Core) : Int × Int × Int × Int := bif c.k == 5 || c.k == 8 || c.k == 11 then (0, 0, 2, 2) else bif c.k == 6 then (0, 0, 3, 3) else bif c.k == 7 || c.k == 10 then (0, 0, 1, 1) else bif c.k == 9 then (0, 0, (c.labels.length : Int), (c.labels.length : Int)) else
  bif c.k == 12 then (2, 2, 1, 1) else bif c.k == 13 then (0, 3, 0, 4) else (0, 0, 0, 0)
theorem counts144 (c : Core) (h : Heap) : evw E 144 [.agg c.cells] h = some (.ret (tupN c.cnt.1 c.cnt.2.1 c.cnt.2.2.1 c.cnt.2.2.2), h) := by
  refine evw_run primsC 0 rfl rfl rfl ?_
  rw [nf144]
  unfold Core.cnt
  rcases kcases c.k with hk | hk | hk | hk | hk | hk | hk | hk | hk | hk | hk | hk | hk | hk
  · simp only [aggS, Core.cells_len, Core.c0, Core.c1, Core.c2, Core.c3, Core.c4, Core.c5, Core.c6, Core.c7, Core.c8, Core.c9, Core.c10, Core.re, show Nat.beq 11 11 = true from rfl, bind_some', bin_int, eqlI, neqI, lssI, gtrI, leqI, geqI, boolB, notB, onOut_ret, condT, condF, lenA54, lenA55, lenA29, lenA31, lenA9, List.length_map, bin_str, eqSt, neS, label_ne, tupS, hk]
    rfl
  · simp only [aggS, Core.cells_len, Core.c0, Core.c1, Core.c2, Core.c3, Core.c4, Core.c5, Core.c6, Core.c7, Core.c8, Core.c9, Core.c10, Core.re, show Nat.beq 11 11 = true from rfl, bind_some', bin_int, eqlI, neqI, lssI, gtrI, leqI, geqI, boolB, notB, onOut_ret, condT, condF, lenA54, lenA55, lenA29, lenA31, lenA9, List.length_map, bin_str, eqSt, neS, label_ne, tupS, hk]
    rfl
  · simp only [aggS, Core.cells_len, Core.c0, Core.c1, Core.c2, Core.c3, Core.c4, Core.c5, Core.c6, Core.c7, Core.c8, Core.c9, Core.c10, Core.re, show Nat.beq 11 11 = true from rfl, bind_some', bin_int, eqlI, neqI, lssI, gtrI, leqI, geqI, boolB, notB, onOut_ret, condT, condF, lenA54, lenA55, lenA29, lenA31, lenA9, List.length_map, bin_str, eqSt, neS, label_ne, tupS, hk]
    rfl
  · simp only [aggS, Core.cells_len, Core.c0, Core.c1, Core.c2, Core.c3, Core.c4, Core.c5, Core.c6, Core.c7, Core.c8, Core.c9, Core.c10, Core.re, show Nat.beq 11 11 = true from rfl, bind_some', bin_int, eqlI, neqI, lssI, gtrI, leqI, geqI, boolB, notB, onOut_ret, condT, condF, lenA54, lenA55, lenA29, lenA31, lenA9, List.length_map, bin_str, eqSt, neS, label_ne, tupS, hk]
    rfl
  · simp only [aggS, Core.cells_len, Core.c0, Core.c1, Core.c2, Core.c3, Core.c4, Core.c5, Core.c6, Core.c7, Core.c8, Core.c9, Core.c10, Core.re, show Nat.beq 11 11 = true from rfl, bind_some', bin_int, eqlI, neqI, lssI, gtrI, leqI, geqI, boolB, notB, onOut_ret, condT, condF, lenA54, lenA55, lenA29, lenA31, lenA9, List.length_map, bin_str, eqSt, neS, label_ne, tupS, hk]
    rfl
  · simp only [aggS, Core.cells_len, Core.c0, Core.c1, Core.c2, Core.c3, Core.c4, Core.c5, Core.c6, Core.c7, Core.c8, Core.c9, Core.c10, Core.re, show Nat.beq 11 11 = true from rfl, bind_some', bin_int, eqlI, neqI, lssI, gtrI, leqI, geqI, boolB, notB, onOut_ret, condT, condF, lenA54, lenA55, lenA29, lenA31, lenA9, List.length_map, bin_str, eqSt, neS, label_ne, tupS, hk]
    rfl
  · simp only [aggS, Core.cells_len, Core.c0, Core.c1, Core.c2, Core.c3, Core.c4, Core.c5, Core.c6, Core.c7, Core.c8, Core.c9, Core.c10, Core.re, show Nat.beq 11 11 = true from rfl, bind_some', bin_int, eqlI, neqI, lssI, gtrI, leqI, geqI, boolB, notB, onOut_ret, condT, condF, lenA54, lenA55, lenA29, lenA31, lenA9, List.length_map, bin_str, eqSt, neS, label_ne, tupS, hk]
    rfl
  · simp only [aggS, Core.cells_len, Core.c0, Core.c1, Core.c2, Core.c3, Core.c4, Core.c5, Core.c6, Core.c7, Core.c8, Core.c9, Core.c10, Core.re, show Nat.beq 11 11 = true from rfl, bind_some', bin_int, eqlI, neqI, lssI, gtrI, leqI, geqI, boolB, notB, onOut_ret, condT, condF, lenA54, lenA55, lenA29, lenA31, lenA9, List.length_map, bin_str, eqSt, neS, label_ne, tupS, hk]
    rfl
  · simp only [aggS, Core.cells_len, Core.c0, Core.c1, Core.c2, Core.c3, Core.c4, Core.c5, Core.c6, Core.c7, Core.c8, Core.c9, Core.c10, Core.re, show Nat.beq 11 11 = true from rfl, bind_some', bin_int, eqlI, neqI, lssI, gtrI, leqI, geqI, boolB, notB, onOut_ret, condT, condF, lenA54, lenA55, lenA29, lenA31, lenA9, List.length_map, bin_str, eqSt, neS, label_ne, tupS, hk]
    rfl
  · simp only [aggS, Core.cells_len, Core.c0, Core.c1, Core.c2, Core.c3, Core.c4, Core.c5, Core.c6, Core.c7, Core.c8, Core.c9, Core.c10, Core.re, show Nat.beq 11 11 = true from rfl, bind_some', bin_int, eqlI, neqI, lssI, gtrI, leqI, geqI, boolB, notB, onOut_ret, condT, condF, lenA54, lenA55, lenA29, lenA31, lenA9, List.length_map, bin_str, eqSt, neS, label_ne, tupS, hk]
    rfl
  · simp only [aggS, Core.cells_len, Core.c0, Core.c1, Core.c2, Core.c3, Core.c4, Core.c5, Core.c6, Core.c7, Core.c8, Core.c9, Core.c10, Core.re, show Nat.beq 11 11 = true from rfl, bind_some', bin_int, eqlI, neqI, lssI, gtrI, leqI, geqI, boolB, notB, onOut_ret, condT, condF, lenA54, lenA55, lenA29, lenA31, lenA9, List.length_map, bin_str, eqSt, neS, label_ne, tupS, hk]
    rfl
  · simp only [aggS, Core.cells_len, Core.c0, Core.c1, Core.c2, Core.c3, Core.c4, Core.c5, Core.c6, Core.c7, Core.c8, Core.c9, Core.c10, Core.re, show Nat.beq 11 11 = true from rfl, bind_some', bin_int, eqlI, neqI, lssI, gtrI, leqI, geqI, boolB, notB, onOut_ret, condT, condF, lenA54, lenA55, lenA29, lenA31, lenA9, List.length_map, bin_str, eqSt, neS, label_ne, tupS, hk]
    rfl
  · simp only [aggS, Core.cells_len, Core.c0, Core.c1, Core.c2, Core.c3, Core.c4, Core.c5, Core.c6, Core.c7, Core.c8, Core.c9, Core.c10, Core.re, show Nat.beq 11 11 = true from rfl, bind_some', bin_int, eqlI, neqI, lssI, gtrI, leqI, geqI, boolB, notB, onOut_ret, condT, condF, lenA54, lenA55, lenA29, lenA31, lenA9, List.length_map, bin_str, eqSt, neS, label_ne, tupS, hk]
    rfl
  · have e1 := kne (j := 1) hk (by decide) (by decide)
    have e2 := kne (j := 2) hk (by decide) (by decide)
    have e3 := kne (j := 3) hk (by decide) (by decide)
    have e4 := kne (j := 4) hk (by decide) (by decide)
    have e5 := kne (j := 5) hk (by decide) (by decide)
    have e6 := kne (j := 6) hk (by decide) (by decide)
    have e7 := kne (j := 7) hk (by decide) (by decide)
    have e8 := kne (j := 8) hk (by decide) (by decide)
    have e9 := kne (j := 9) hk (by decide) (by decide)
    have e10 := kne (j := 10) hk (by decide) (by decide)
    have e11 := kne (j := 11) hk (by decide) (by decide)
    have e12 := kne (j := 12) hk (by decide) (by decide)
    have e13 := kne (j := 13) hk (by decide) (by decide)
    simp only [aggS, Core.cells_len, Core.c0, Core.c1, Core.c2, Core.c3, Core.c4, Core.c5, Core.c6, Core.c7, Core.c8, Core.c9, Core.c10, Core.re, show Nat.beq 11 11 = true from rfl, bind_some', bin_int, eqlI, neqI, lssI, gtrI, leqI, geqI, boolB, notB, onOut_ret, condT, condF, lenA54, lenA55, lenA29, lenA31, lenA9, List.length_map, bin_str, eqSt, neS, label_ne, tupS, e1, e2, e3, e4, e5, e6, e7, e8, e9, e10, e11, e12, e13]
    rfl

noncomputable abbrev Q94 (Sq : (Nat → List AV → Heap → R) → Nat → Heap → Heap → AV → AV → AV → AV → AV → AV → AV → AV → AV → AV → AV → AV → R) (m : Nat) (h0 h : Heap) (c : Core) (b : Bool) : R := Sq (evw E) (m + 1) h0 h (.lit (.int .i64 c.k)) (.lit (.int .i64 c.n)) (.lit (.int .i64 c.m)) (.lit (.bool c.inn)) (.lit (.string c.name)) (.lit (.string c.df)) (.lit (.int .i64 c.nd)) (.sl 5 (c.types.map Ty.cells)) (.sl 1 (c.labels.map strC)) (.sl 11 (c.kids.map Core.cells)) (.sl 10 (c.vals.map Val.cells)) (.lit (.bool b))
theorem gateS {ρ : Type} (m : Nat) (x : Option ρ) : gateK (m + 1) x = x := (Eq.refl _).trans rfl
theorem loop94 (c : Core) (ok : c.Ok) (n : Nat) (h0 h : Heap) : ∀ (q i : Nat), i ≤ c.types.length → c.types.length < q + i → Lp94_7 (evw E) n h0 q h (.lit (.int .i64 c.k)) (.lit (.int .i64 c.n)) (.lit (.int .i64 c.m)) (.lit (.bool c.inn)) (.lit (.string c.name)) (.lit (.string c.df)) (.lit (.int .i64 c.nd)) (.sl 5 (c.types.map Ty.cells)) (.sl 1 (c.labels.map strC)) (.sl 11 (c.kids.map Core.cells)) (.sl 10 (c.vals.map Val.cells)) (.lit (.int .i64 (i : Int))) = some (.ret (.lit (.bool ((c.types.drop i).all Ty.right))), h) := by
  have hl : c.types.length ≤ 9223372036854775807 := ok.tlen
  intro q
  induction q with
  | zero => intro i h1 h2; omega
  | succ q ih =>
    intro i h1 h2
    rw [Lp94_7_succ]
    simp only [lenA29, bind_some', bin_int, lssI, boolB, List.length_map]
    by_cases hi : i < c.types.length
    · rw [ltT hi, condT, indexA_map _ _ _ _ hi, bind_some', partA_full (Ty.cells_len _), bind_some', right_spec _ _ (ok.ty (List.getElem_mem hi)), onOut_ret, notB, bind_some', boolB, bind_some', List.drop_eq_getElem_cons hi, List.all_cons, addI, bind_some', incI (by omega)]
      cases e : (c.types[i]).right with
      | false => rfl
      | true => exact ih (i + 1) hi (by omega)
    · rw [ltF hi, condF, List.drop_of_length_le (by omega)]; rfl
theorem st6 (c : Core) (ok : c.Ok) (m : Nat) (hm : c.types.length ≤ m) (h0 h : Heap) (b : Bool) : Q94 Sq94_6 m h0 h c b = some (.ret (.lit (.bool (!b && c.types.all Ty.right))), h) := by
  show Sq94_6 _ _ _ _ _ _ _ _ _ _ _ _ _ _ _ _ = _
  rw [Sq94_6_eq, gateS, boolB, bind_some']
  cases b with
  | true => rfl
  | false =>
    have := loop94 c ok (m + 1) h0 h (m + 1) 0 (Nat.zero_le _) (by omega)
    rw [List.drop_zero] at this
    rw [condF]; exact this
theorem rng (x v : Int) {α : Type} (A B : α) : cond (decide (x < v)) A (cond (decide (x > v)) A B) = cond (x == v) B A := by
  by_cases h : x = v
  · subst h; simp
  · rw [beq_false_of_ne h]
    by_cases h1 : x < v
    · rw [decide_eq_true h1]; rfl
    · rw [decide_eq_false h1, decide_eq_true (show x > v by omega)]; rfl
theorem nlt0 (n : Nat) : decide ((n : Int) < 0) = false := decide_eq_false (by omega)
theorem gtr_not (x y : Int) : decide (x > y) = !decide (x ≤ y) := by
  by_cases h : x ≤ y
  · rw [decide_eq_true h, decide_eq_false (by omega)]; rfl
  · rw [decide_eq_false h, decide_eq_true (by omega)]; rfl
def Core.counted (c : Core) : Bool := (!decide ((c.types.length : Int) < c.cnt.1) && !decide ((c.types.length : Int) > c.cnt.2.1)) && (!decide ((c.kids.length : Int) < c.cnt.2.2.1) && !decide ((c.kids.length : Int) > c.cnt.2.2.2))
theorem st5 (c : Core) (ok : c.Ok) (m : Nat) (hm : c.types.length ≤ m) (h0 h : Heap) (b : Bool) : Q94 Sq94_5 m h0 h c b = some (.ret (.lit (.bool (!b && (c.counted && c.types.all Ty.right)))), h) := by
  have h6 := fun h b => st6 c ok m hm h0 h b
  simp only [Q94] at h6
  show Sq94_5 _ _ _ _ _ _ _ _ _ _ _ _ _ _ _ _ = _
  rw [Sq94_5_eq, gateS, boolB, bind_some']
  have hc : [AV.lit (.int .i64 c.k), .lit (.int .i64 c.n), .lit (.int .i64 c.m), .lit (.bool c.inn), .lit (.string c.name), .lit (.string c.df), .lit (.int .i64 c.nd), .sl 5 (c.types.map Ty.cells), .sl 1 (c.labels.map strC), .sl 11 (c.kids.map Core.cells), .sl 10 (c.vals.map Val.cells)] = c.cells := by rw [Core.cells_eq]
  rw [hc, counts144, onOut_ret]
  unfold tupN
  simp only [tupS, bind_some', List.getElem?_cons_zero, List.getElem?_cons_succ, lenA29, lenA54, List.length_map, bin_int, lssI, gtrI, boolB, h6]
  unfold Core.counted
  cases b <;> cases decide ((c.types.length : Int) < c.cnt.1) <;> cases decide ((c.types.length : Int) > c.cnt.2.1) <;> cases decide ((c.kids.length : Int) < c.cnt.2.2.1) <;> cases decide ((c.kids.length : Int) > c.cnt.2.2.2) <;> rfl
noncomputable def q4 (c : Core) : Bool := (c.k != 9 && decide ((c.labels.length : Int) > 0)) || !risingR c.labels none
theorem st4 (c : Core) (ok : c.Ok) (m : Nat) (hm : c.types.length ≤ m) (h0 h : Heap) (b : Bool) : Q94 Sq94_4 m h0 h c b = some (.ret (.lit (.bool (!b && (!q4 c && (c.counted && c.types.all Ty.right))))), h) := by
  have h6 := fun h b => st5 c ok m hm h0 h b
  simp only [Q94] at h6
  show Sq94_4 _ _ _ _ _ _ _ _ _ _ _ _ _ _ _ _ = _
  rw [Sq94_4_eq, gateS, boolB, bind_some']
  simp only [bind_some', lenA31, List.length_map, bin_int, neqI, gtrI, boolB, notB, rising_spec _ ok.lab, onOut_ret, h6]
  unfold q4
  cases b <;> cases c.k != 9 <;> cases decide ((c.labels.length : Int) > 0) <;> cases risingR c.labels none <;> rfl
noncomputable def q3 (c : Core) : Bool := (c.k != 1 && (c.k != 2 && (c.k != 11 && c.n != 0))) || (c.k != 12 && (c.k != 13 && !c.placed))
theorem st3 (c : Core) (ok : c.Ok) (m : Nat) (hm : c.types.length ≤ m) (h0 h : Heap) (b : Bool) : Q94 Sq94_3 m h0 h c b = some (.ret (.lit (.bool (!b && (!q3 c && (!q4 c && (c.counted && c.types.all Ty.right)))))), h) := by
  have h6 := fun h b => st4 c ok m hm h0 h b
  simp only [Q94] at h6
  show Sq94_3 _ _ _ _ _ _ _ _ _ _ _ _ _ _ _ _ = _
  rw [Sq94_3_eq, gateS, boolB, bind_some']
  simp only [bind_some', bin_int, neqI, boolB, placed_ne, h6]
  unfold q3
  cases b with
  | true => rfl
  | false => cases c.k != 1 <;> cases c.k != 2 <;> cases c.k != 11 <;> cases c.n != 0 <;> cases c.k != 12 <;> cases c.k != 13 <;> cases c.placed <;> rfl
noncomputable def q2 (c : Core) : Bool := (c.k == 2 && (c.n != 0 && c.n != 1)) || (c.k == 11 && (decide (c.n < 1) || decide (c.n > 7)))
theorem st2 (c : Core) (ok : c.Ok) (m : Nat) (hm : c.types.length ≤ m) (h0 h : Heap) (b : Bool) : Q94 Sq94_2 m h0 h c b = some (.ret (.lit (.bool (!b && (!q2 c && (!q3 c && (!q4 c && (c.counted && c.types.all Ty.right))))))), h) := by
  have h6 := fun h b => st3 c ok m hm h0 h b
  simp only [Q94] at h6
  show Sq94_2 _ _ _ _ _ _ _ _ _ _ _ _ _ _ _ _ = _
  rw [Sq94_2_eq, gateS, boolB, bind_some']
  simp only [bind_some', bin_int, neqI, eqlI, lssI, gtrI, boolB, h6]
  unfold q2
  cases b with
  | true => rfl
  | false => cases c.k == 2 <;> cases c.n != 0 <;> cases c.n != 1 <;> cases c.k == 11 <;> cases decide (c.n < 1) <;> cases decide (c.n > 7) <;> rfl
noncomputable def q1 (c : Core) (nmd : Bool) : Bool := (nmd && !(kindR c.name == 1)) || ((!nmd && (c.k != 3 && !(eqd c.name ByteArray.empty))) || (c.k == 3 && decide ((c.name.size : Int) > 40)))
theorem st1 (c : Core) (ok : c.Ok) (m : Nat) (hm : c.types.length ≤ m) (h0 h : Heap) (b : Bool) : Q94 Sq94_1 m h0 h c b = some (.ret (.lit (.bool (!q1 c b && (!q2 c && (!q3 c && (!q4 c && (c.counted && c.types.all Ty.right))))))), h) := by
  have h6 := fun h b => st2 c ok m hm h0 h b
  simp only [Q94] at h6
  show Sq94_1 _ _ _ _ _ _ _ _ _ _ _ _ _ _ _ _ = _
  rw [Sq94_1_eq, gateS, boolB, bind_some']
  simp only [bind_some', bin_int, neqI, eqlI, lssI, gtrI, boolB, notB, fine_spec, onOut_ret, bin_str, neS, lenA9, h6]
  unfold q1
  cases b <;> cases kindR c.name == 1 <;> cases c.k != 3 <;> cases eqd c.name ByteArray.empty <;> cases c.k == 3 <;> cases decide ((c.name.size : Int) > 40) <;> rfl
def Core.named (c : Core) : Bool := c.k == 4 || (c.k == 5 || (c.k == 7 || (c.k == 10 || c.k == 13)))
theorem st0 (c : Core) (ok : c.Ok) (m : Nat) (hm : c.types.length ≤ m) (h0 h : Heap) (b : Bool) : Q94 Sq94_0 m h0 h c b = some (.ret (.lit (.bool (!b && (!q1 c c.named && (!q2 c && (!q3 c && (!q4 c && (c.counted && c.types.all Ty.right)))))))), h) := by
  have h6 := fun h b => st1 c ok m hm h0 h b
  simp only [Q94] at h6
  show Sq94_0 _ _ _ _ _ _ _ _ _ _ _ _ _ _ _ _ = _
  rw [Sq94_0_eq, gateS, boolB, bind_some']
  simp only [bind_some', bin_int, eqlI, boolB, h6]
  unfold Core.named
  cases b with
  | true => rfl
  | false => cases c.k == 4 <;> cases c.k == 5 <;> cases c.k == 7 <;> cases c.k == 10 <;> cases c.k == 13 <;> rfl
noncomputable def q0 (c : Core) : Bool := decide (c.k < 1) || (decide (c.k > 13) || (c.m != 0 || (c.inn || !decide (c.vals = []))))
noncomputable def Core.ownR (c : Core) : Bool := !q0 c && (!q1 c c.named && (!q2 c && (!q3 c && (!q4 c && (c.counted && c.types.all Ty.right)))))
theorem own94' (c : Core) (ok : c.Ok) (h : Heap) : evw E 94 [.agg c.cells] h = some (.ret (.lit (.bool c.ownR)), h) := by
  refine evw_run primsC (c.types.length + 1) rfl rfl rfl ?_
  rw [nf94]
  have h6 := fun h' b => st0 c ok c.types.length (Nat.le_refl _) h h' b
  simp only [Q94] at h6
  simp only [aggS, Core.cells_len, Core.c0, Core.c1, Core.c2, Core.c3, Core.c4, Core.c5, Core.c6, Core.c7, Core.c8, Core.c9, Core.c10, show Nat.beq 11 11 = true from rfl, bind_some', bin_int, neqI, lssI, gtrI, boolB, condT, lenA55, List.length_map, h6, gt0_nil]
  unfold Core.ownR q0
  cases decide (c.k < 1) <;> cases decide (c.k > 13) <;> cases c.m != 0 <;> cases c.inn <;> cases decide (c.vals = []) <;> rfl
theorem nil_len {α : Type} (l : List α) : decide (l = []) = ((l.length : Int) == 0) := by
  cases l with
  | nil => rfl
  | cons x l => rw [decide_eq_false (by intro h; cases h), beq_false_of_ne (by rw [List.length_cons]; omega)]
theorem rng_eq (x v : Int) : (!decide (x < v) && !decide (x > v)) = (x == v) := by
  by_cases h : x = v
  · subst h; simp
  · rw [beq_false_of_ne h]
    by_cases h1 : x < v
    · rw [decide_eq_true h1]; rfl
    · rw [decide_eq_false h1, decide_eq_true (show x > v by omega)]; rfl
theorem len0_right (l : List Ty) (h : ((l.length : Int) == 0) = true) : l.all Ty.right = true := by
  cases l with
  | nil => rfl
  | cons x l => rw [beq_iff_eq, List.length_cons] at h; omega
theorem len0_rising (l : List ByteArray) (h : ((l.length : Int) == 0) = true) : risingR l none = true := by
  cases l with
  | nil => rfl
  | cons x l => rw [beq_iff_eq, List.length_cons] at h; omega
theorem lss_not (x y : Int) : decide (x < y) = !decide (x ≥ y) := by
  by_cases h : x < y
  · rw [decide_eq_true h, decide_eq_false (by omega)]; rfl
  · rw [decide_eq_false h, decide_eq_true (by omega)]; rfl

theorem own_eq (c : Core) : c.ownR = c.own := by
  unfold Core.ownR Core.own q0 q1 q2 q3 q4 Core.named Core.counted Core.cnt Core.worded Core.numbered Core.bearing Core.typed
  rcases kcases c.k with hk | hk | hk | hk | hk | hk | hk | hk | hk | hk | hk | hk | hk | hk
  · simp only [hk]
    have f1 := len0_right c.types
    have f2 := len0_rising c.labels
    rw [nil_len c.labels, gt0_nil, nil_len c.labels, gtr_not (c.name.size : Int) 40]
    simp only [bne, beq_self_eq_true, show ((1 : Int) == 2) = false from rfl, show ((1 : Int) == 3) = false from rfl, show ((1 : Int) == 4) = false from rfl, show ((1 : Int) == 5) = false from rfl, show ((1 : Int) == 6) = false from rfl, show ((1 : Int) == 7) = false from rfl, show ((1 : Int) == 8) = false from rfl, show ((1 : Int) == 9) = false from rfl, show ((1 : Int) == 10) = false from rfl, show ((1 : Int) == 11) = false from rfl, show ((1 : Int) == 12) = false from rfl, show ((1 : Int) == 13) = false from rfl, show decide ((1 : Int) < 1) = false from rfl, show decide ((1 : Int) > 13) = false from rfl, Bool.or_true, Bool.true_or, Bool.false_or, Bool.or_false, Bool.and_true, Bool.true_and, Bool.false_and, Bool.and_false, Bool.not_true, Bool.not_false, cond_true, cond_false, rng_eq]
    cases e2 : (c.labels.length : Int) == 0
    · simp only [Bool.or_true, Bool.true_or, Bool.false_or, Bool.or_false, Bool.and_true, Bool.true_and, Bool.false_and, Bool.and_false, Bool.not_true, Bool.not_false, cond_true, cond_false]
    rw [f2 e2]
    cases e1 : (c.types.length : Int) == 0
    · simp only [Bool.or_true, Bool.true_or, Bool.false_or, Bool.or_false, Bool.and_true, Bool.true_and, Bool.false_and, Bool.and_false, Bool.not_true, Bool.not_false, cond_true, cond_false]
    rw [f1 e1]
    all_goals (cases (decide (c.vals = [])) <;> simp only [Bool.or_true, Bool.true_or, Bool.false_or, Bool.or_false, Bool.and_true, Bool.true_and, Bool.false_and, Bool.and_false, Bool.not_true, Bool.not_false, cond_true, cond_false])
    all_goals (cases (c.m == 0) <;> simp only [Bool.or_true, Bool.true_or, Bool.false_or, Bool.or_false, Bool.and_true, Bool.true_and, Bool.false_and, Bool.and_false, Bool.not_true, Bool.not_false, cond_true, cond_false])
    all_goals (cases (c.inn) <;> simp only [Bool.or_true, Bool.true_or, Bool.false_or, Bool.or_false, Bool.and_true, Bool.true_and, Bool.false_and, Bool.and_false, Bool.not_true, Bool.not_false, cond_true, cond_false])
    all_goals (cases (eqd c.name ByteArray.empty) <;> simp only [Bool.or_true, Bool.true_or, Bool.false_or, Bool.or_false, Bool.and_true, Bool.true_and, Bool.false_and, Bool.and_false, Bool.not_true, Bool.not_false, cond_true, cond_false])
    all_goals (cases (c.placed) <;> simp only [Bool.or_true, Bool.true_or, Bool.false_or, Bool.or_false, Bool.and_true, Bool.true_and, Bool.false_and, Bool.and_false, Bool.not_true, Bool.not_false, cond_true, cond_false])
    all_goals (cases ((c.kids.length : Int) == 0) <;> simp only [Bool.or_true, Bool.true_or, Bool.false_or, Bool.or_false, Bool.and_true, Bool.true_and, Bool.false_and, Bool.and_false, Bool.not_true, Bool.not_false, cond_true, cond_false])
  · simp only [hk]
    have f1 := len0_right c.types
    have f2 := len0_rising c.labels
    rw [nil_len c.labels, gt0_nil, nil_len c.labels, gtr_not (c.name.size : Int) 40]
    simp only [bne, beq_self_eq_true, show ((2 : Int) == 1) = false from rfl, show ((2 : Int) == 3) = false from rfl, show ((2 : Int) == 4) = false from rfl, show ((2 : Int) == 5) = false from rfl, show ((2 : Int) == 6) = false from rfl, show ((2 : Int) == 7) = false from rfl, show ((2 : Int) == 8) = false from rfl, show ((2 : Int) == 9) = false from rfl, show ((2 : Int) == 10) = false from rfl, show ((2 : Int) == 11) = false from rfl, show ((2 : Int) == 12) = false from rfl, show ((2 : Int) == 13) = false from rfl, show decide ((2 : Int) < 1) = false from rfl, show decide ((2 : Int) > 13) = false from rfl, Bool.or_true, Bool.true_or, Bool.false_or, Bool.or_false, Bool.and_true, Bool.true_and, Bool.false_and, Bool.and_false, Bool.not_true, Bool.not_false, cond_true, cond_false, rng_eq]
    cases e2 : (c.labels.length : Int) == 0
    · simp only [Bool.or_true, Bool.true_or, Bool.false_or, Bool.or_false, Bool.and_true, Bool.true_and, Bool.false_and, Bool.and_false, Bool.not_true, Bool.not_false, cond_true, cond_false]
    rw [f2 e2]
    cases e1 : (c.types.length : Int) == 0
    · simp only [Bool.or_true, Bool.true_or, Bool.false_or, Bool.or_false, Bool.and_true, Bool.true_and, Bool.false_and, Bool.and_false, Bool.not_true, Bool.not_false, cond_true, cond_false]
    rw [f1 e1]
    all_goals (cases (decide (c.vals = [])) <;> simp only [Bool.or_true, Bool.true_or, Bool.false_or, Bool.or_false, Bool.and_true, Bool.true_and, Bool.false_and, Bool.and_false, Bool.not_true, Bool.not_false, cond_true, cond_false])
    all_goals (cases (c.m == 0) <;> simp only [Bool.or_true, Bool.true_or, Bool.false_or, Bool.or_false, Bool.and_true, Bool.true_and, Bool.false_and, Bool.and_false, Bool.not_true, Bool.not_false, cond_true, cond_false])
    all_goals (cases (c.inn) <;> simp only [Bool.or_true, Bool.true_or, Bool.false_or, Bool.or_false, Bool.and_true, Bool.true_and, Bool.false_and, Bool.and_false, Bool.not_true, Bool.not_false, cond_true, cond_false])
    all_goals (cases (eqd c.name ByteArray.empty) <;> simp only [Bool.or_true, Bool.true_or, Bool.false_or, Bool.or_false, Bool.and_true, Bool.true_and, Bool.false_and, Bool.and_false, Bool.not_true, Bool.not_false, cond_true, cond_false])
    all_goals (cases (c.placed) <;> simp only [Bool.or_true, Bool.true_or, Bool.false_or, Bool.or_false, Bool.and_true, Bool.true_and, Bool.false_and, Bool.and_false, Bool.not_true, Bool.not_false, cond_true, cond_false])
    all_goals (cases ((c.kids.length : Int) == 0) <;> simp only [Bool.or_true, Bool.true_or, Bool.false_or, Bool.or_false, Bool.and_true, Bool.true_and, Bool.false_and, Bool.and_false, Bool.not_true, Bool.not_false, cond_true, cond_false])
    all_goals (cases (c.n == 0) <;> simp only [Bool.or_true, Bool.true_or, Bool.false_or, Bool.or_false, Bool.and_true, Bool.true_and, Bool.false_and, Bool.and_false, Bool.not_true, Bool.not_false, cond_true, cond_false])
    all_goals (cases (c.n == 1) <;> simp only [Bool.or_true, Bool.true_or, Bool.false_or, Bool.or_false, Bool.and_true, Bool.true_and, Bool.false_and, Bool.and_false, Bool.not_true, Bool.not_false, cond_true, cond_false])
  · simp only [hk]
    have f1 := len0_right c.types
    have f2 := len0_rising c.labels
    rw [nil_len c.labels, gt0_nil, nil_len c.labels, gtr_not (c.name.size : Int) 40]
    simp only [bne, beq_self_eq_true, show ((3 : Int) == 1) = false from rfl, show ((3 : Int) == 2) = false from rfl, show ((3 : Int) == 4) = false from rfl, show ((3 : Int) == 5) = false from rfl, show ((3 : Int) == 6) = false from rfl, show ((3 : Int) == 7) = false from rfl, show ((3 : Int) == 8) = false from rfl, show ((3 : Int) == 9) = false from rfl, show ((3 : Int) == 10) = false from rfl, show ((3 : Int) == 11) = false from rfl, show ((3 : Int) == 12) = false from rfl, show ((3 : Int) == 13) = false from rfl, show decide ((3 : Int) < 1) = false from rfl, show decide ((3 : Int) > 13) = false from rfl, Bool.or_true, Bool.true_or, Bool.false_or, Bool.or_false, Bool.and_true, Bool.true_and, Bool.false_and, Bool.and_false, Bool.not_true, Bool.not_false, cond_true, cond_false, rng_eq]
    cases e2 : (c.labels.length : Int) == 0
    · simp only [Bool.or_true, Bool.true_or, Bool.false_or, Bool.or_false, Bool.and_true, Bool.true_and, Bool.false_and, Bool.and_false, Bool.not_true, Bool.not_false, cond_true, cond_false]
    rw [f2 e2]
    cases e1 : (c.types.length : Int) == 0
    · simp only [Bool.or_true, Bool.true_or, Bool.false_or, Bool.or_false, Bool.and_true, Bool.true_and, Bool.false_and, Bool.and_false, Bool.not_true, Bool.not_false, cond_true, cond_false]
    rw [f1 e1]
    all_goals (cases (decide (c.vals = [])) <;> simp only [Bool.or_true, Bool.true_or, Bool.false_or, Bool.or_false, Bool.and_true, Bool.true_and, Bool.false_and, Bool.and_false, Bool.not_true, Bool.not_false, cond_true, cond_false])
    all_goals (cases (c.m == 0) <;> simp only [Bool.or_true, Bool.true_or, Bool.false_or, Bool.or_false, Bool.and_true, Bool.true_and, Bool.false_and, Bool.and_false, Bool.not_true, Bool.not_false, cond_true, cond_false])
    all_goals (cases (c.inn) <;> simp only [Bool.or_true, Bool.true_or, Bool.false_or, Bool.or_false, Bool.and_true, Bool.true_and, Bool.false_and, Bool.and_false, Bool.not_true, Bool.not_false, cond_true, cond_false])
    all_goals (cases (decide ((c.name.size : Int) ≤ 40)) <;> simp only [Bool.or_true, Bool.true_or, Bool.false_or, Bool.or_false, Bool.and_true, Bool.true_and, Bool.false_and, Bool.and_false, Bool.not_true, Bool.not_false, cond_true, cond_false])
    all_goals (cases (c.placed) <;> simp only [Bool.or_true, Bool.true_or, Bool.false_or, Bool.or_false, Bool.and_true, Bool.true_and, Bool.false_and, Bool.and_false, Bool.not_true, Bool.not_false, cond_true, cond_false])
    all_goals (cases (c.n == 0) <;> simp only [Bool.or_true, Bool.true_or, Bool.false_or, Bool.or_false, Bool.and_true, Bool.true_and, Bool.false_and, Bool.and_false, Bool.not_true, Bool.not_false, cond_true, cond_false])
    all_goals (cases ((c.kids.length : Int) == 0) <;> simp only [Bool.or_true, Bool.true_or, Bool.false_or, Bool.or_false, Bool.and_true, Bool.true_and, Bool.false_and, Bool.and_false, Bool.not_true, Bool.not_false, cond_true, cond_false])
  · simp only [hk]
    have f1 := len0_right c.types
    have f2 := len0_rising c.labels
    rw [nil_len c.labels, gt0_nil, nil_len c.labels, gtr_not (c.name.size : Int) 40]
    simp only [bne, beq_self_eq_true, show ((4 : Int) == 1) = false from rfl, show ((4 : Int) == 2) = false from rfl, show ((4 : Int) == 3) = false from rfl, show ((4 : Int) == 5) = false from rfl, show ((4 : Int) == 6) = false from rfl, show ((4 : Int) == 7) = false from rfl, show ((4 : Int) == 8) = false from rfl, show ((4 : Int) == 9) = false from rfl, show ((4 : Int) == 10) = false from rfl, show ((4 : Int) == 11) = false from rfl, show ((4 : Int) == 12) = false from rfl, show ((4 : Int) == 13) = false from rfl, show decide ((4 : Int) < 1) = false from rfl, show decide ((4 : Int) > 13) = false from rfl, Bool.or_true, Bool.true_or, Bool.false_or, Bool.or_false, Bool.and_true, Bool.true_and, Bool.false_and, Bool.and_false, Bool.not_true, Bool.not_false, cond_true, cond_false, rng_eq]
    cases e2 : (c.labels.length : Int) == 0
    · simp only [Bool.or_true, Bool.true_or, Bool.false_or, Bool.or_false, Bool.and_true, Bool.true_and, Bool.false_and, Bool.and_false, Bool.not_true, Bool.not_false, cond_true, cond_false]
    rw [f2 e2]
    cases e1 : (c.types.length : Int) == 0
    · simp only [Bool.or_true, Bool.true_or, Bool.false_or, Bool.or_false, Bool.and_true, Bool.true_and, Bool.false_and, Bool.and_false, Bool.not_true, Bool.not_false, cond_true, cond_false]
    rw [f1 e1]
    all_goals (cases (decide (c.vals = [])) <;> simp only [Bool.or_true, Bool.true_or, Bool.false_or, Bool.or_false, Bool.and_true, Bool.true_and, Bool.false_and, Bool.and_false, Bool.not_true, Bool.not_false, cond_true, cond_false])
    all_goals (cases (c.m == 0) <;> simp only [Bool.or_true, Bool.true_or, Bool.false_or, Bool.or_false, Bool.and_true, Bool.true_and, Bool.false_and, Bool.and_false, Bool.not_true, Bool.not_false, cond_true, cond_false])
    all_goals (cases (c.inn) <;> simp only [Bool.or_true, Bool.true_or, Bool.false_or, Bool.or_false, Bool.and_true, Bool.true_and, Bool.false_and, Bool.and_false, Bool.not_true, Bool.not_false, cond_true, cond_false])
    all_goals (cases (kindR c.name == 1) <;> simp only [Bool.or_true, Bool.true_or, Bool.false_or, Bool.or_false, Bool.and_true, Bool.true_and, Bool.false_and, Bool.and_false, Bool.not_true, Bool.not_false, cond_true, cond_false])
    all_goals (cases (c.placed) <;> simp only [Bool.or_true, Bool.true_or, Bool.false_or, Bool.or_false, Bool.and_true, Bool.true_and, Bool.false_and, Bool.and_false, Bool.not_true, Bool.not_false, cond_true, cond_false])
    all_goals (cases (c.n == 0) <;> simp only [Bool.or_true, Bool.true_or, Bool.false_or, Bool.or_false, Bool.and_true, Bool.true_and, Bool.false_and, Bool.and_false, Bool.not_true, Bool.not_false, cond_true, cond_false])
    all_goals (cases ((c.kids.length : Int) == 0) <;> simp only [Bool.or_true, Bool.true_or, Bool.false_or, Bool.or_false, Bool.and_true, Bool.true_and, Bool.false_and, Bool.and_false, Bool.not_true, Bool.not_false, cond_true, cond_false])
  · simp only [hk]
    have f1 := len0_right c.types
    have f2 := len0_rising c.labels
    rw [nil_len c.labels, gt0_nil, nil_len c.labels, gtr_not (c.name.size : Int) 40]
    simp only [bne, beq_self_eq_true, show ((5 : Int) == 1) = false from rfl, show ((5 : Int) == 2) = false from rfl, show ((5 : Int) == 3) = false from rfl, show ((5 : Int) == 4) = false from rfl, show ((5 : Int) == 6) = false from rfl, show ((5 : Int) == 7) = false from rfl, show ((5 : Int) == 8) = false from rfl, show ((5 : Int) == 9) = false from rfl, show ((5 : Int) == 10) = false from rfl, show ((5 : Int) == 11) = false from rfl, show ((5 : Int) == 12) = false from rfl, show ((5 : Int) == 13) = false from rfl, show decide ((5 : Int) < 1) = false from rfl, show decide ((5 : Int) > 13) = false from rfl, Bool.or_true, Bool.true_or, Bool.false_or, Bool.or_false, Bool.and_true, Bool.true_and, Bool.false_and, Bool.and_false, Bool.not_true, Bool.not_false, cond_true, cond_false, rng_eq]
    cases e2 : (c.labels.length : Int) == 0
    · simp only [Bool.or_true, Bool.true_or, Bool.false_or, Bool.or_false, Bool.and_true, Bool.true_and, Bool.false_and, Bool.and_false, Bool.not_true, Bool.not_false, cond_true, cond_false]
    rw [f2 e2]
    cases e1 : (c.types.length : Int) == 0
    · simp only [Bool.or_true, Bool.true_or, Bool.false_or, Bool.or_false, Bool.and_true, Bool.true_and, Bool.false_and, Bool.and_false, Bool.not_true, Bool.not_false, cond_true, cond_false]
    rw [f1 e1]
    all_goals (cases (decide (c.vals = [])) <;> simp only [Bool.or_true, Bool.true_or, Bool.false_or, Bool.or_false, Bool.and_true, Bool.true_and, Bool.false_and, Bool.and_false, Bool.not_true, Bool.not_false, cond_true, cond_false])
    all_goals (cases (c.m == 0) <;> simp only [Bool.or_true, Bool.true_or, Bool.false_or, Bool.or_false, Bool.and_true, Bool.true_and, Bool.false_and, Bool.and_false, Bool.not_true, Bool.not_false, cond_true, cond_false])
    all_goals (cases (c.inn) <;> simp only [Bool.or_true, Bool.true_or, Bool.false_or, Bool.or_false, Bool.and_true, Bool.true_and, Bool.false_and, Bool.and_false, Bool.not_true, Bool.not_false, cond_true, cond_false])
    all_goals (cases (kindR c.name == 1) <;> simp only [Bool.or_true, Bool.true_or, Bool.false_or, Bool.or_false, Bool.and_true, Bool.true_and, Bool.false_and, Bool.and_false, Bool.not_true, Bool.not_false, cond_true, cond_false])
    all_goals (cases (c.placed) <;> simp only [Bool.or_true, Bool.true_or, Bool.false_or, Bool.or_false, Bool.and_true, Bool.true_and, Bool.false_and, Bool.and_false, Bool.not_true, Bool.not_false, cond_true, cond_false])
    all_goals (cases (c.n == 0) <;> simp only [Bool.or_true, Bool.true_or, Bool.false_or, Bool.or_false, Bool.and_true, Bool.true_and, Bool.false_and, Bool.and_false, Bool.not_true, Bool.not_false, cond_true, cond_false])
    all_goals (cases ((c.kids.length : Int) == 2) <;> simp only [Bool.or_true, Bool.true_or, Bool.false_or, Bool.or_false, Bool.and_true, Bool.true_and, Bool.false_and, Bool.and_false, Bool.not_true, Bool.not_false, cond_true, cond_false])
  · simp only [hk]
    have f1 := len0_right c.types
    have f2 := len0_rising c.labels
    rw [nil_len c.labels, gt0_nil, nil_len c.labels, gtr_not (c.name.size : Int) 40]
    simp only [bne, beq_self_eq_true, show ((6 : Int) == 1) = false from rfl, show ((6 : Int) == 2) = false from rfl, show ((6 : Int) == 3) = false from rfl, show ((6 : Int) == 4) = false from rfl, show ((6 : Int) == 5) = false from rfl, show ((6 : Int) == 7) = false from rfl, show ((6 : Int) == 8) = false from rfl, show ((6 : Int) == 9) = false from rfl, show ((6 : Int) == 10) = false from rfl, show ((6 : Int) == 11) = false from rfl, show ((6 : Int) == 12) = false from rfl, show ((6 : Int) == 13) = false from rfl, show decide ((6 : Int) < 1) = false from rfl, show decide ((6 : Int) > 13) = false from rfl, Bool.or_true, Bool.true_or, Bool.false_or, Bool.or_false, Bool.and_true, Bool.true_and, Bool.false_and, Bool.and_false, Bool.not_true, Bool.not_false, cond_true, cond_false, rng_eq]
    cases e2 : (c.labels.length : Int) == 0
    · simp only [Bool.or_true, Bool.true_or, Bool.false_or, Bool.or_false, Bool.and_true, Bool.true_and, Bool.false_and, Bool.and_false, Bool.not_true, Bool.not_false, cond_true, cond_false]
    rw [f2 e2]
    cases e1 : (c.types.length : Int) == 0
    · simp only [Bool.or_true, Bool.true_or, Bool.false_or, Bool.or_false, Bool.and_true, Bool.true_and, Bool.false_and, Bool.and_false, Bool.not_true, Bool.not_false, cond_true, cond_false]
    rw [f1 e1]
    all_goals (cases (decide (c.vals = [])) <;> simp only [Bool.or_true, Bool.true_or, Bool.false_or, Bool.or_false, Bool.and_true, Bool.true_and, Bool.false_and, Bool.and_false, Bool.not_true, Bool.not_false, cond_true, cond_false])
    all_goals (cases (c.m == 0) <;> simp only [Bool.or_true, Bool.true_or, Bool.false_or, Bool.or_false, Bool.and_true, Bool.true_and, Bool.false_and, Bool.and_false, Bool.not_true, Bool.not_false, cond_true, cond_false])
    all_goals (cases (c.inn) <;> simp only [Bool.or_true, Bool.true_or, Bool.false_or, Bool.or_false, Bool.and_true, Bool.true_and, Bool.false_and, Bool.and_false, Bool.not_true, Bool.not_false, cond_true, cond_false])
    all_goals (cases (eqd c.name ByteArray.empty) <;> simp only [Bool.or_true, Bool.true_or, Bool.false_or, Bool.or_false, Bool.and_true, Bool.true_and, Bool.false_and, Bool.and_false, Bool.not_true, Bool.not_false, cond_true, cond_false])
    all_goals (cases (c.placed) <;> simp only [Bool.or_true, Bool.true_or, Bool.false_or, Bool.or_false, Bool.and_true, Bool.true_and, Bool.false_and, Bool.and_false, Bool.not_true, Bool.not_false, cond_true, cond_false])
    all_goals (cases (c.n == 0) <;> simp only [Bool.or_true, Bool.true_or, Bool.false_or, Bool.or_false, Bool.and_true, Bool.true_and, Bool.false_and, Bool.and_false, Bool.not_true, Bool.not_false, cond_true, cond_false])
    all_goals (cases ((c.kids.length : Int) == 3) <;> simp only [Bool.or_true, Bool.true_or, Bool.false_or, Bool.or_false, Bool.and_true, Bool.true_and, Bool.false_and, Bool.and_false, Bool.not_true, Bool.not_false, cond_true, cond_false])
  · simp only [hk]
    have f1 := len0_right c.types
    have f2 := len0_rising c.labels
    rw [nil_len c.labels, gt0_nil, nil_len c.labels, gtr_not (c.name.size : Int) 40]
    simp only [bne, beq_self_eq_true, show ((7 : Int) == 1) = false from rfl, show ((7 : Int) == 2) = false from rfl, show ((7 : Int) == 3) = false from rfl, show ((7 : Int) == 4) = false from rfl, show ((7 : Int) == 5) = false from rfl, show ((7 : Int) == 6) = false from rfl, show ((7 : Int) == 8) = false from rfl, show ((7 : Int) == 9) = false from rfl, show ((7 : Int) == 10) = false from rfl, show ((7 : Int) == 11) = false from rfl, show ((7 : Int) == 12) = false from rfl, show ((7 : Int) == 13) = false from rfl, show decide ((7 : Int) < 1) = false from rfl, show decide ((7 : Int) > 13) = false from rfl, Bool.or_true, Bool.true_or, Bool.false_or, Bool.or_false, Bool.and_true, Bool.true_and, Bool.false_and, Bool.and_false, Bool.not_true, Bool.not_false, cond_true, cond_false, rng_eq]
    cases e2 : (c.labels.length : Int) == 0
    · simp only [Bool.or_true, Bool.true_or, Bool.false_or, Bool.or_false, Bool.and_true, Bool.true_and, Bool.false_and, Bool.and_false, Bool.not_true, Bool.not_false, cond_true, cond_false]
    rw [f2 e2]
    cases e1 : (c.types.length : Int) == 0
    · simp only [Bool.or_true, Bool.true_or, Bool.false_or, Bool.or_false, Bool.and_true, Bool.true_and, Bool.false_and, Bool.and_false, Bool.not_true, Bool.not_false, cond_true, cond_false]
    rw [f1 e1]
    all_goals (cases (decide (c.vals = [])) <;> simp only [Bool.or_true, Bool.true_or, Bool.false_or, Bool.or_false, Bool.and_true, Bool.true_and, Bool.false_and, Bool.and_false, Bool.not_true, Bool.not_false, cond_true, cond_false])
    all_goals (cases (c.m == 0) <;> simp only [Bool.or_true, Bool.true_or, Bool.false_or, Bool.or_false, Bool.and_true, Bool.true_and, Bool.false_and, Bool.and_false, Bool.not_true, Bool.not_false, cond_true, cond_false])
    all_goals (cases (c.inn) <;> simp only [Bool.or_true, Bool.true_or, Bool.false_or, Bool.or_false, Bool.and_true, Bool.true_and, Bool.false_and, Bool.and_false, Bool.not_true, Bool.not_false, cond_true, cond_false])
    all_goals (cases (kindR c.name == 1) <;> simp only [Bool.or_true, Bool.true_or, Bool.false_or, Bool.or_false, Bool.and_true, Bool.true_and, Bool.false_and, Bool.and_false, Bool.not_true, Bool.not_false, cond_true, cond_false])
    all_goals (cases (c.placed) <;> simp only [Bool.or_true, Bool.true_or, Bool.false_or, Bool.or_false, Bool.and_true, Bool.true_and, Bool.false_and, Bool.and_false, Bool.not_true, Bool.not_false, cond_true, cond_false])
    all_goals (cases (c.n == 0) <;> simp only [Bool.or_true, Bool.true_or, Bool.false_or, Bool.or_false, Bool.and_true, Bool.true_and, Bool.false_and, Bool.and_false, Bool.not_true, Bool.not_false, cond_true, cond_false])
    all_goals (cases ((c.kids.length : Int) == 1) <;> simp only [Bool.or_true, Bool.true_or, Bool.false_or, Bool.or_false, Bool.and_true, Bool.true_and, Bool.false_and, Bool.and_false, Bool.not_true, Bool.not_false, cond_true, cond_false])
  · simp only [hk]
    have f1 := len0_right c.types
    have f2 := len0_rising c.labels
    rw [nil_len c.labels, gt0_nil, nil_len c.labels, gtr_not (c.name.size : Int) 40]
    simp only [bne, beq_self_eq_true, show ((8 : Int) == 1) = false from rfl, show ((8 : Int) == 2) = false from rfl, show ((8 : Int) == 3) = false from rfl, show ((8 : Int) == 4) = false from rfl, show ((8 : Int) == 5) = false from rfl, show ((8 : Int) == 6) = false from rfl, show ((8 : Int) == 7) = false from rfl, show ((8 : Int) == 9) = false from rfl, show ((8 : Int) == 10) = false from rfl, show ((8 : Int) == 11) = false from rfl, show ((8 : Int) == 12) = false from rfl, show ((8 : Int) == 13) = false from rfl, show decide ((8 : Int) < 1) = false from rfl, show decide ((8 : Int) > 13) = false from rfl, Bool.or_true, Bool.true_or, Bool.false_or, Bool.or_false, Bool.and_true, Bool.true_and, Bool.false_and, Bool.and_false, Bool.not_true, Bool.not_false, cond_true, cond_false, rng_eq]
    cases e2 : (c.labels.length : Int) == 0
    · simp only [Bool.or_true, Bool.true_or, Bool.false_or, Bool.or_false, Bool.and_true, Bool.true_and, Bool.false_and, Bool.and_false, Bool.not_true, Bool.not_false, cond_true, cond_false]
    rw [f2 e2]
    cases e1 : (c.types.length : Int) == 0
    · simp only [Bool.or_true, Bool.true_or, Bool.false_or, Bool.or_false, Bool.and_true, Bool.true_and, Bool.false_and, Bool.and_false, Bool.not_true, Bool.not_false, cond_true, cond_false]
    rw [f1 e1]
    all_goals (cases (decide (c.vals = [])) <;> simp only [Bool.or_true, Bool.true_or, Bool.false_or, Bool.or_false, Bool.and_true, Bool.true_and, Bool.false_and, Bool.and_false, Bool.not_true, Bool.not_false, cond_true, cond_false])
    all_goals (cases (c.m == 0) <;> simp only [Bool.or_true, Bool.true_or, Bool.false_or, Bool.or_false, Bool.and_true, Bool.true_and, Bool.false_and, Bool.and_false, Bool.not_true, Bool.not_false, cond_true, cond_false])
    all_goals (cases (c.inn) <;> simp only [Bool.or_true, Bool.true_or, Bool.false_or, Bool.or_false, Bool.and_true, Bool.true_and, Bool.false_and, Bool.and_false, Bool.not_true, Bool.not_false, cond_true, cond_false])
    all_goals (cases (eqd c.name ByteArray.empty) <;> simp only [Bool.or_true, Bool.true_or, Bool.false_or, Bool.or_false, Bool.and_true, Bool.true_and, Bool.false_and, Bool.and_false, Bool.not_true, Bool.not_false, cond_true, cond_false])
    all_goals (cases (c.placed) <;> simp only [Bool.or_true, Bool.true_or, Bool.false_or, Bool.or_false, Bool.and_true, Bool.true_and, Bool.false_and, Bool.and_false, Bool.not_true, Bool.not_false, cond_true, cond_false])
    all_goals (cases (c.n == 0) <;> simp only [Bool.or_true, Bool.true_or, Bool.false_or, Bool.or_false, Bool.and_true, Bool.true_and, Bool.false_and, Bool.and_false, Bool.not_true, Bool.not_false, cond_true, cond_false])
    all_goals (cases ((c.kids.length : Int) == 2) <;> simp only [Bool.or_true, Bool.true_or, Bool.false_or, Bool.or_false, Bool.and_true, Bool.true_and, Bool.false_and, Bool.and_false, Bool.not_true, Bool.not_false, cond_true, cond_false])
  · simp only [hk]
    have f1 := len0_right c.types
    have f2 := len0_rising c.labels
    rw [nil_len c.labels, gt0_nil, nil_len c.labels, gtr_not (c.name.size : Int) 40]
    simp only [bne, beq_self_eq_true, show ((9 : Int) == 1) = false from rfl, show ((9 : Int) == 2) = false from rfl, show ((9 : Int) == 3) = false from rfl, show ((9 : Int) == 4) = false from rfl, show ((9 : Int) == 5) = false from rfl, show ((9 : Int) == 6) = false from rfl, show ((9 : Int) == 7) = false from rfl, show ((9 : Int) == 8) = false from rfl, show ((9 : Int) == 10) = false from rfl, show ((9 : Int) == 11) = false from rfl, show ((9 : Int) == 12) = false from rfl, show ((9 : Int) == 13) = false from rfl, show decide ((9 : Int) < 1) = false from rfl, show decide ((9 : Int) > 13) = false from rfl, Bool.or_true, Bool.true_or, Bool.false_or, Bool.or_false, Bool.and_true, Bool.true_and, Bool.false_and, Bool.and_false, Bool.not_true, Bool.not_false, cond_true, cond_false, rng_eq]
    cases e1 : (c.types.length : Int) == 0
    · simp only [Bool.or_true, Bool.true_or, Bool.false_or, Bool.or_false, Bool.and_true, Bool.true_and, Bool.false_and, Bool.and_false, Bool.not_true, Bool.not_false, cond_true, cond_false]
    rw [f1 e1]
    all_goals (cases (decide (c.vals = [])) <;> simp only [Bool.or_true, Bool.true_or, Bool.false_or, Bool.or_false, Bool.and_true, Bool.true_and, Bool.false_and, Bool.and_false, Bool.not_true, Bool.not_false, cond_true, cond_false])
    all_goals (cases (c.m == 0) <;> simp only [Bool.or_true, Bool.true_or, Bool.false_or, Bool.or_false, Bool.and_true, Bool.true_and, Bool.false_and, Bool.and_false, Bool.not_true, Bool.not_false, cond_true, cond_false])
    all_goals (cases (c.inn) <;> simp only [Bool.or_true, Bool.true_or, Bool.false_or, Bool.or_false, Bool.and_true, Bool.true_and, Bool.false_and, Bool.and_false, Bool.not_true, Bool.not_false, cond_true, cond_false])
    all_goals (cases (eqd c.name ByteArray.empty) <;> simp only [Bool.or_true, Bool.true_or, Bool.false_or, Bool.or_false, Bool.and_true, Bool.true_and, Bool.false_and, Bool.and_false, Bool.not_true, Bool.not_false, cond_true, cond_false])
    all_goals (cases (c.placed) <;> simp only [Bool.or_true, Bool.true_or, Bool.false_or, Bool.or_false, Bool.and_true, Bool.true_and, Bool.false_and, Bool.and_false, Bool.not_true, Bool.not_false, cond_true, cond_false])
    all_goals (cases (risingR c.labels none) <;> simp only [Bool.or_true, Bool.true_or, Bool.false_or, Bool.or_false, Bool.and_true, Bool.true_and, Bool.false_and, Bool.and_false, Bool.not_true, Bool.not_false, cond_true, cond_false])
    all_goals (cases (c.n == 0) <;> simp only [Bool.or_true, Bool.true_or, Bool.false_or, Bool.or_false, Bool.and_true, Bool.true_and, Bool.false_and, Bool.and_false, Bool.not_true, Bool.not_false, cond_true, cond_false])
    all_goals (cases ((c.kids.length : Int) == (c.labels.length : Int)) <;> simp only [Bool.or_true, Bool.true_or, Bool.false_or, Bool.or_false, Bool.and_true, Bool.true_and, Bool.false_and, Bool.and_false, Bool.not_true, Bool.not_false, cond_true, cond_false])
  · simp only [hk]
    have f1 := len0_right c.types
    have f2 := len0_rising c.labels
    rw [nil_len c.labels, gt0_nil, nil_len c.labels, gtr_not (c.name.size : Int) 40]
    simp only [bne, beq_self_eq_true, show ((10 : Int) == 1) = false from rfl, show ((10 : Int) == 2) = false from rfl, show ((10 : Int) == 3) = false from rfl, show ((10 : Int) == 4) = false from rfl, show ((10 : Int) == 5) = false from rfl, show ((10 : Int) == 6) = false from rfl, show ((10 : Int) == 7) = false from rfl, show ((10 : Int) == 8) = false from rfl, show ((10 : Int) == 9) = false from rfl, show ((10 : Int) == 11) = false from rfl, show ((10 : Int) == 12) = false from rfl, show ((10 : Int) == 13) = false from rfl, show decide ((10 : Int) < 1) = false from rfl, show decide ((10 : Int) > 13) = false from rfl, Bool.or_true, Bool.true_or, Bool.false_or, Bool.or_false, Bool.and_true, Bool.true_and, Bool.false_and, Bool.and_false, Bool.not_true, Bool.not_false, cond_true, cond_false, rng_eq]
    cases e2 : (c.labels.length : Int) == 0
    · simp only [Bool.or_true, Bool.true_or, Bool.false_or, Bool.or_false, Bool.and_true, Bool.true_and, Bool.false_and, Bool.and_false, Bool.not_true, Bool.not_false, cond_true, cond_false]
    rw [f2 e2]
    cases e1 : (c.types.length : Int) == 0
    · simp only [Bool.or_true, Bool.true_or, Bool.false_or, Bool.or_false, Bool.and_true, Bool.true_and, Bool.false_and, Bool.and_false, Bool.not_true, Bool.not_false, cond_true, cond_false]
    rw [f1 e1]
    all_goals (cases (decide (c.vals = [])) <;> simp only [Bool.or_true, Bool.true_or, Bool.false_or, Bool.or_false, Bool.and_true, Bool.true_and, Bool.false_and, Bool.and_false, Bool.not_true, Bool.not_false, cond_true, cond_false])
    all_goals (cases (c.m == 0) <;> simp only [Bool.or_true, Bool.true_or, Bool.false_or, Bool.or_false, Bool.and_true, Bool.true_and, Bool.false_and, Bool.and_false, Bool.not_true, Bool.not_false, cond_true, cond_false])
    all_goals (cases (c.inn) <;> simp only [Bool.or_true, Bool.true_or, Bool.false_or, Bool.or_false, Bool.and_true, Bool.true_and, Bool.false_and, Bool.and_false, Bool.not_true, Bool.not_false, cond_true, cond_false])
    all_goals (cases (kindR c.name == 1) <;> simp only [Bool.or_true, Bool.true_or, Bool.false_or, Bool.or_false, Bool.and_true, Bool.true_and, Bool.false_and, Bool.and_false, Bool.not_true, Bool.not_false, cond_true, cond_false])
    all_goals (cases (c.placed) <;> simp only [Bool.or_true, Bool.true_or, Bool.false_or, Bool.or_false, Bool.and_true, Bool.true_and, Bool.false_and, Bool.and_false, Bool.not_true, Bool.not_false, cond_true, cond_false])
    all_goals (cases (c.n == 0) <;> simp only [Bool.or_true, Bool.true_or, Bool.false_or, Bool.or_false, Bool.and_true, Bool.true_and, Bool.false_and, Bool.and_false, Bool.not_true, Bool.not_false, cond_true, cond_false])
    all_goals (cases ((c.kids.length : Int) == 1) <;> simp only [Bool.or_true, Bool.true_or, Bool.false_or, Bool.or_false, Bool.and_true, Bool.true_and, Bool.false_and, Bool.and_false, Bool.not_true, Bool.not_false, cond_true, cond_false])
  · simp only [hk]
    have f1 := len0_right c.types
    have f2 := len0_rising c.labels
    rw [nil_len c.labels, gt0_nil, nil_len c.labels, gtr_not (c.name.size : Int) 40]
    simp only [bne, beq_self_eq_true, show ((11 : Int) == 1) = false from rfl, show ((11 : Int) == 2) = false from rfl, show ((11 : Int) == 3) = false from rfl, show ((11 : Int) == 4) = false from rfl, show ((11 : Int) == 5) = false from rfl, show ((11 : Int) == 6) = false from rfl, show ((11 : Int) == 7) = false from rfl, show ((11 : Int) == 8) = false from rfl, show ((11 : Int) == 9) = false from rfl, show ((11 : Int) == 10) = false from rfl, show ((11 : Int) == 12) = false from rfl, show ((11 : Int) == 13) = false from rfl, show decide ((11 : Int) < 1) = false from rfl, show decide ((11 : Int) > 13) = false from rfl, Bool.or_true, Bool.true_or, Bool.false_or, Bool.or_false, Bool.and_true, Bool.true_and, Bool.false_and, Bool.and_false, Bool.not_true, Bool.not_false, cond_true, cond_false, rng_eq]
    rw [lss_not c.n 1, gtr_not c.n 7]
    cases e2 : (c.labels.length : Int) == 0
    · simp only [Bool.or_true, Bool.true_or, Bool.false_or, Bool.or_false, Bool.and_true, Bool.true_and, Bool.false_and, Bool.and_false, Bool.not_true, Bool.not_false, cond_true, cond_false]
    rw [f2 e2]
    cases e1 : (c.types.length : Int) == 0
    · simp only [Bool.or_true, Bool.true_or, Bool.false_or, Bool.or_false, Bool.and_true, Bool.true_and, Bool.false_and, Bool.and_false, Bool.not_true, Bool.not_false, cond_true, cond_false]
    rw [f1 e1]
    all_goals (cases (decide (c.vals = [])) <;> simp only [Bool.or_true, Bool.true_or, Bool.false_or, Bool.or_false, Bool.and_true, Bool.true_and, Bool.false_and, Bool.and_false, Bool.not_true, Bool.not_false, cond_true, cond_false])
    all_goals (cases (c.m == 0) <;> simp only [Bool.or_true, Bool.true_or, Bool.false_or, Bool.or_false, Bool.and_true, Bool.true_and, Bool.false_and, Bool.and_false, Bool.not_true, Bool.not_false, cond_true, cond_false])
    all_goals (cases (c.inn) <;> simp only [Bool.or_true, Bool.true_or, Bool.false_or, Bool.or_false, Bool.and_true, Bool.true_and, Bool.false_and, Bool.and_false, Bool.not_true, Bool.not_false, cond_true, cond_false])
    all_goals (cases (eqd c.name ByteArray.empty) <;> simp only [Bool.or_true, Bool.true_or, Bool.false_or, Bool.or_false, Bool.and_true, Bool.true_and, Bool.false_and, Bool.and_false, Bool.not_true, Bool.not_false, cond_true, cond_false])
    all_goals (cases (c.placed) <;> simp only [Bool.or_true, Bool.true_or, Bool.false_or, Bool.or_false, Bool.and_true, Bool.true_and, Bool.false_and, Bool.and_false, Bool.not_true, Bool.not_false, cond_true, cond_false])
    all_goals (cases (decide (c.n ≥ 1)) <;> simp only [Bool.or_true, Bool.true_or, Bool.false_or, Bool.or_false, Bool.and_true, Bool.true_and, Bool.false_and, Bool.and_false, Bool.not_true, Bool.not_false, cond_true, cond_false])
    all_goals (cases (decide (c.n ≤ 7)) <;> simp only [Bool.or_true, Bool.true_or, Bool.false_or, Bool.or_false, Bool.and_true, Bool.true_and, Bool.false_and, Bool.and_false, Bool.not_true, Bool.not_false, cond_true, cond_false])
    all_goals (cases ((c.kids.length : Int) == 2) <;> simp only [Bool.or_true, Bool.true_or, Bool.false_or, Bool.or_false, Bool.and_true, Bool.true_and, Bool.false_and, Bool.and_false, Bool.not_true, Bool.not_false, cond_true, cond_false])
  · simp only [hk]
    have f1 := len0_right c.types
    have f2 := len0_rising c.labels
    rw [nil_len c.labels, gt0_nil, nil_len c.labels, gtr_not (c.name.size : Int) 40]
    simp only [bne, beq_self_eq_true, show ((12 : Int) == 1) = false from rfl, show ((12 : Int) == 2) = false from rfl, show ((12 : Int) == 3) = false from rfl, show ((12 : Int) == 4) = false from rfl, show ((12 : Int) == 5) = false from rfl, show ((12 : Int) == 6) = false from rfl, show ((12 : Int) == 7) = false from rfl, show ((12 : Int) == 8) = false from rfl, show ((12 : Int) == 9) = false from rfl, show ((12 : Int) == 10) = false from rfl, show ((12 : Int) == 11) = false from rfl, show ((12 : Int) == 13) = false from rfl, show decide ((12 : Int) < 1) = false from rfl, show decide ((12 : Int) > 13) = false from rfl, Bool.or_true, Bool.true_or, Bool.false_or, Bool.or_false, Bool.and_true, Bool.true_and, Bool.false_and, Bool.and_false, Bool.not_true, Bool.not_false, cond_true, cond_false, rng_eq]
    cases e2 : (c.labels.length : Int) == 0
    · simp only [Bool.or_true, Bool.true_or, Bool.false_or, Bool.or_false, Bool.and_true, Bool.true_and, Bool.false_and, Bool.and_false, Bool.not_true, Bool.not_false, cond_true, cond_false]
    rw [f2 e2]
    all_goals (cases (decide (c.vals = [])) <;> simp only [Bool.or_true, Bool.true_or, Bool.false_or, Bool.or_false, Bool.and_true, Bool.true_and, Bool.false_and, Bool.and_false, Bool.not_true, Bool.not_false, cond_true, cond_false])
    all_goals (cases (c.m == 0) <;> simp only [Bool.or_true, Bool.true_or, Bool.false_or, Bool.or_false, Bool.and_true, Bool.true_and, Bool.false_and, Bool.and_false, Bool.not_true, Bool.not_false, cond_true, cond_false])
    all_goals (cases (c.inn) <;> simp only [Bool.or_true, Bool.true_or, Bool.false_or, Bool.or_false, Bool.and_true, Bool.true_and, Bool.false_and, Bool.and_false, Bool.not_true, Bool.not_false, cond_true, cond_false])
    all_goals (cases (eqd c.name ByteArray.empty) <;> simp only [Bool.or_true, Bool.true_or, Bool.false_or, Bool.or_false, Bool.and_true, Bool.true_and, Bool.false_and, Bool.and_false, Bool.not_true, Bool.not_false, cond_true, cond_false])
    all_goals (cases (c.n == 0) <;> simp only [Bool.or_true, Bool.true_or, Bool.false_or, Bool.or_false, Bool.and_true, Bool.true_and, Bool.false_and, Bool.and_false, Bool.not_true, Bool.not_false, cond_true, cond_false])
    all_goals (cases ((c.kids.length : Int) == 1) <;> simp only [Bool.or_true, Bool.true_or, Bool.false_or, Bool.or_false, Bool.and_true, Bool.true_and, Bool.false_and, Bool.and_false, Bool.not_true, Bool.not_false, cond_true, cond_false])
    all_goals (cases ((c.types.length : Int) == 2) <;> simp only [Bool.or_true, Bool.true_or, Bool.false_or, Bool.or_false, Bool.and_true, Bool.true_and, Bool.false_and, Bool.and_false, Bool.not_true, Bool.not_false, cond_true, cond_false])
    all_goals (cases (c.types.all Ty.right) <;> simp only [Bool.or_true, Bool.true_or, Bool.false_or, Bool.or_false, Bool.and_true, Bool.true_and, Bool.false_and, Bool.and_false, Bool.not_true, Bool.not_false, cond_true, cond_false])
  · simp only [hk]
    have f1 := len0_right c.types
    have f2 := len0_rising c.labels
    rw [nil_len c.labels, gt0_nil, nil_len c.labels, gtr_not (c.name.size : Int) 40]
    simp only [bne, beq_self_eq_true, show ((13 : Int) == 1) = false from rfl, show ((13 : Int) == 2) = false from rfl, show ((13 : Int) == 3) = false from rfl, show ((13 : Int) == 4) = false from rfl, show ((13 : Int) == 5) = false from rfl, show ((13 : Int) == 6) = false from rfl, show ((13 : Int) == 7) = false from rfl, show ((13 : Int) == 8) = false from rfl, show ((13 : Int) == 9) = false from rfl, show ((13 : Int) == 10) = false from rfl, show ((13 : Int) == 11) = false from rfl, show ((13 : Int) == 12) = false from rfl, show decide ((13 : Int) < 1) = false from rfl, show decide ((13 : Int) > 13) = false from rfl, Bool.or_true, Bool.true_or, Bool.false_or, Bool.or_false, Bool.and_true, Bool.true_and, Bool.false_and, Bool.and_false, Bool.not_true, Bool.not_false, cond_true, cond_false, rng_eq]
    rw [gtr_not (c.types.length : Int) 3, gtr_not (c.kids.length : Int) 4, nlt0, nlt0]
    cases e2 : (c.labels.length : Int) == 0
    · simp only [Bool.or_true, Bool.true_or, Bool.false_or, Bool.or_false, Bool.and_true, Bool.true_and, Bool.false_and, Bool.and_false, Bool.not_true, Bool.not_false, cond_true, cond_false]
    rw [f2 e2]
    all_goals (cases (decide (c.vals = [])) <;> simp only [Bool.or_true, Bool.true_or, Bool.false_or, Bool.or_false, Bool.and_true, Bool.true_and, Bool.false_and, Bool.and_false, Bool.not_true, Bool.not_false, cond_true, cond_false])
    all_goals (cases (c.m == 0) <;> simp only [Bool.or_true, Bool.true_or, Bool.false_or, Bool.or_false, Bool.and_true, Bool.true_and, Bool.false_and, Bool.and_false, Bool.not_true, Bool.not_false, cond_true, cond_false])
    all_goals (cases (c.inn) <;> simp only [Bool.or_true, Bool.true_or, Bool.false_or, Bool.or_false, Bool.and_true, Bool.true_and, Bool.false_and, Bool.and_false, Bool.not_true, Bool.not_false, cond_true, cond_false])
    all_goals (cases (kindR c.name == 1) <;> simp only [Bool.or_true, Bool.true_or, Bool.false_or, Bool.or_false, Bool.and_true, Bool.true_and, Bool.false_and, Bool.and_false, Bool.not_true, Bool.not_false, cond_true, cond_false])
    all_goals (cases (c.n == 0) <;> simp only [Bool.or_true, Bool.true_or, Bool.false_or, Bool.or_false, Bool.and_true, Bool.true_and, Bool.false_and, Bool.and_false, Bool.not_true, Bool.not_false, cond_true, cond_false])
    all_goals (cases (decide ((c.kids.length : Int) ≤ 4)) <;> simp only [Bool.or_true, Bool.true_or, Bool.false_or, Bool.or_false, Bool.and_true, Bool.true_and, Bool.false_and, Bool.and_false, Bool.not_true, Bool.not_false, cond_true, cond_false])
    all_goals (cases (decide ((c.types.length : Int) ≤ 3)) <;> simp only [Bool.or_true, Bool.true_or, Bool.false_or, Bool.or_false, Bool.and_true, Bool.true_and, Bool.false_and, Bool.and_false, Bool.not_true, Bool.not_false, cond_true, cond_false])
    all_goals (cases (c.types.all Ty.right) <;> simp only [Bool.or_true, Bool.true_or, Bool.false_or, Bool.or_false, Bool.and_true, Bool.true_and, Bool.false_and, Bool.and_false, Bool.not_true, Bool.not_false, cond_true, cond_false])
  · have d : (decide (c.k < 1) || (decide (c.k > 13) || (c.m != 0 || (c.inn || !decide (c.vals = []))))) = true := by
      rcases hk with h1 | h1
      · rw [decide_eq_true h1]; rfl
      · rw [decide_eq_true (show c.k > 13 from h1)]; cases decide (c.k < 1) <;> rfl
    rw [d, Bool.not_true, Bool.false_and]
    have e1 := kne (j := 1) hk (by decide) (by decide)
    have e2 := kne (j := 2) hk (by decide) (by decide)
    have e3 := kne (j := 3) hk (by decide) (by decide)
    have e4 := kne (j := 4) hk (by decide) (by decide)
    have e5 := kne (j := 5) hk (by decide) (by decide)
    have e6 := kne (j := 6) hk (by decide) (by decide)
    have e7 := kne (j := 7) hk (by decide) (by decide)
    have e8 := kne (j := 8) hk (by decide) (by decide)
    have e9 := kne (j := 9) hk (by decide) (by decide)
    have e10 := kne (j := 10) hk (by decide) (by decide)
    have e11 := kne (j := 11) hk (by decide) (by decide)
    have e12 := kne (j := 12) hk (by decide) (by decide)
    have e13 := kne (j := 13) hk (by decide) (by decide)
    simp only [e1, e2, e3, e4, e5, e6, e7, e8, e9, e10, e11, e12, e13, Bool.or_self, cond_false, Bool.false_and, Bool.and_false]
theorem own94 (c : Core) (ok : c.Ok) (h : Heap) : evw E 94 [.agg c.cells] h = some (.ret (.lit (.bool c.own)), h) := by rw [own94' c ok h, own_eq]
theorem right39 : ∀ (c : Core) (h : Heap), c.Ok → evw E 39 [.agg c.cells] h = some (.ret (.lit (.bool c.right)), h)
  | c, h, ok => by
    have hl : c.kids.length ≤ 9223372036854775807 := ok.len
    have loop : ∀ (q i : Nat), i ≤ c.kids.length → c.kids.length < q + i → Lp39_0 (evw E) (c.kids.length + 1) h q h (.lit (.int .i64 c.k)) (.lit (.int .i64 c.n)) (.lit (.int .i64 c.m)) (.lit (.bool c.inn)) (.lit (.string c.name)) (.lit (.string c.df)) (.lit (.int .i64 c.nd)) (.sl 5 (c.types.map Ty.cells)) (.sl 1 (c.labels.map strC)) (.sl 11 (c.kids.map Core.cells)) (.sl 10 (c.vals.map Val.cells)) (.lit (.int .i64 (i : Int))) = some (.ret (.lit (.bool ((c.kids.drop i).all Core.right))), h) := by
      intro q
      induction q with
      | zero => intro i h1 h2; omega
      | succ q ih =>
        intro i h1 h2
        rw [Lp39_0_succ]
        simp only [lenA54, bind_some', bin_int, lssI, boolB, List.length_map]
        by_cases hi : i < c.kids.length
        · have hrec := right39 c.kids[i] h (ok.kid (List.getElem_mem hi))
          rw [ltT hi, condT, indexA_map _ _ _ _ hi, bind_some', partA_full (Core.cells_len _), bind_some', hrec, onOut_ret, notB, bind_some', boolB, bind_some', List.drop_eq_getElem_cons hi, List.all_cons, addI, bind_some', incI (by omega)]
          cases e : (c.kids[i]).right with
          | false => rfl
          | true => exact ih (i + 1) hi (by omega)
        · rw [ltF hi, condF, List.drop_of_length_le (by omega)]; rfl
    refine evw_run primsC (c.kids.length + 1) rfl rfl rfl ?_
    rw [nf39, aggS, bind_some', Core.cells_len, show Nat.beq 11 11 = true from rfl, condT, Core.re, own94 c ok, onOut_ret, notB, bind_some', boolB, bind_some', Core.right_eq, Core.rightL_all]
    simp only [Core.c0, Core.c1, Core.c2, Core.c3, Core.c4, Core.c5, Core.c6, Core.c7, Core.c8, Core.c9, Core.c10]
    cases c.own with
    | false => rfl
    | true =>
      have := loop (c.kids.length + 1) 0 (Nat.zero_le _) (by omega)
      rw [List.drop_zero] at this
      rw [Bool.not_true, condF]; exact this
  termination_by c => SizeOf.sizeOf c
  decreasing_by exact Core.size_kid hi
end Go.Sh.T

/- core.Nodes, core.Labels and the reference's: the same; the law CoreTells. -/
namespace Go.Sh.T
open Go Go.Sh
set_option linter.unusedSimpArgs false
set_option linter.unusedVariables false
set_option maxRecDepth 100000

mutual
def Core.pre : Core → List Core
  | ⟨k, n, m, b, s, d, e, ts, ls, xs, vs⟩ => ⟨k, n, m, b, s, d, e, ts, ls, xs, vs⟩ :: Core.preL xs
def Core.preL : List Core → List Core
  | [] => []
  | c :: r => c.pre ++ Core.preL r
end
theorem Core.pre_eq (c : Core) : c.pre = c :: Core.preL c.kids := by cases c; rw [Core.pre]
theorem Core.preL_cons (c : Core) (r : List Core) : Core.preL (c :: r) = c.pre ++ Core.preL r := by rw [Core.preL]
theorem Core.preL_nil : Core.preL [] = [] := by rw [Core.preL]

mutual
theorem Core.pre_vol : ∀ c : Core, c.pre.length ≤ volC c.cells
  | ⟨k, n, m, b, s, d, e, ts, ls, xs, vs⟩ => by
    have := Core.preL_vol xs
    rw [Core.pre, Core.cells, List.length_cons]; simp only [volC, Sh.vol]; omega
theorem Core.preL_vol : ∀ l : List Core, (Core.preL l).length ≤ volE (Core.cellsL l)
  | [] => by rw [Core.preL]; exact Nat.zero_le _
  | c :: r => by
    have h1 := Core.pre_vol c
    have h2 := Core.preL_vol r
    rw [Core.preL, Core.cellsL, List.length_append, volE]; omega
end

theorem preC_cells (c : Core) (hl : c.kids.length ≤ 9223372036854775807) (h : HC.preE (c.kids.map Core.cells) = some ((Core.preL c.kids).map fun x => .agg x.cells)) : HC.preC c.cells = some (c.pre.map fun x => .agg x.cells) := by
  rw [Core.pre_eq, List.map_cons, Core.cells_eq, HC.preC, HC.preA, show Nat.ble (c.kids.map Core.cells).length 9223372036854775807 = true from by rw [List.length_map, Nat.ble_eq]; exact hl, condT, h]; rfl
mutual
theorem Core.preC_ok : ∀ c : Core, c.Ok → HC.preC c.cells = some (c.pre.map fun x => .agg x.cells)
  | ⟨k, n, m, b, s, d, e, ts, ls, xs, vs⟩, ok => by
    refine preC_cells _ ok.len ?_
    show HC.preE (xs.map Core.cells) = _
    rw [← Core.cellsL_map]
    exact Core.preE_ok xs fun x hx => ok.kid hx
theorem Core.preE_ok : ∀ l : List Core, (∀ x ∈ l, x.Ok) → HC.preE (Core.cellsL l) = some ((Core.preL l).map fun x => .agg x.cells)
  | [], _ => by rw [Core.cellsL, HC.preE, Core.preL]; rfl
  | c :: r, h => by
    rw [Core.cellsL, HC.preE, Core.preC_ok c (h c List.mem_cons_self), bind_some', Core.preE_ok r fun x hx => h x (List.mem_cons_of_mem _ hx), bind_some', Core.preL, List.map_append]
end

theorem cntW_eq : ∀ (l : List AV) (n : Int), 0 ≤ n → n + l.length ≤ 4294967296 → HC.N.cntW l n = n + l.length
  | [], n, _, _ => by rw [HC.N.cntW]; simp
  | x :: l, n, h0, h => by
    rw [List.length_cons] at h
    rw [HC.N.cntW, IntWalk.i64_in _ (by omega), cntW_eq l (n + 1) (by omega) (by omega), List.length_cons]; omega
theorem nodes40 (c : Core) (ok : c.Ok) (hv : c.vol ≤ 1048576) (h : Heap) : evw E 40 [.agg c.cells] h = some (.ret (.lit (.int .i64 (c.pre.length : Int))), h) := by
  refine evw_prim primsC (p := p40) (by rfl) ?_
  have hl := Core.pre_vol c
  have hv : volC c.cells ≤ 1048576 := hv
  show (HC.preC c.cells).bind _ = _
  rw [Core.preC_ok c ok, bind_some', cntW_eq _ _ (by omega) (by rw [List.length_map]; omega), List.length_map, Int.zero_add]

theorem nodes41 : ∀ (c : Core) (h : Heap), c.Ok → c.vol ≤ 1048576 → evw E 41 [.agg c.cells] h = some (.ret (.lit (.int .i64 (c.pre.length : Int))), h)
  | c, h, ok, hv => by
    have hl : c.kids.length ≤ 9223372036854775807 := ok.len
    have hp := Core.pre_vol c
    rw [Core.pre_eq, List.length_cons] at hp
    have hv' : volC c.cells ≤ 1048576 := hv
    have loop : ∀ (q i : Nat) (acc : Nat), i ≤ c.kids.length → c.kids.length < q + i → acc + (Core.preL (c.kids.drop i)).length ≤ 1048576 → Lp41_0 (evw E) (c.kids.length + 1) h q h (.lit (.int .i64 c.k)) (.lit (.int .i64 c.n)) (.lit (.int .i64 c.m)) (.lit (.bool c.inn)) (.lit (.string c.name)) (.lit (.string c.df)) (.lit (.int .i64 c.nd)) (.sl 5 (c.types.map Ty.cells)) (.sl 1 (c.labels.map strC)) (.sl 11 (c.kids.map Core.cells)) (.sl 10 (c.vals.map Val.cells)) (.lit (.int .i64 (acc : Int))) (.lit (.int .i64 (i : Int))) = some (.ret (.lit (.int .i64 ((acc + (Core.preL (c.kids.drop i)).length : Nat) : Int))), h) := by
      intro q
      induction q with
      | zero => intro i acc h1 h2; omega
      | succ q ih =>
        intro i acc h1 h2 h3
        rw [Lp41_0_succ]
        simp only [lenA54, bind_some', bin_int, lssI, boolB, List.length_map]
        by_cases hi : i < c.kids.length
        · have hrec := nodes41 c.kids[i] h (ok.kid (List.getElem_mem hi)) (Nat.le_trans (Core.vol_kid (List.getElem_mem hi)) hv)
          rw [List.drop_eq_getElem_cons hi, Core.preL_cons, List.length_append] at h3 ⊢
          have e1 : add64 (acc : Int) ((c.kids[i]).pre.length : Int) = ((acc + (c.kids[i]).pre.length : Nat) : Int) := by
            unfold add64; rw [IntWalk.i64_in _ (by omega)]; omega
          rw [ltT hi, condT, indexA_map _ _ _ _ hi, bind_some', partA_full (Core.cells_len _), bind_some', hrec, onOut_ret, bin_int, addI, bind_some', addI, bind_some', incI (by omega), e1]
          rw [ih (i + 1) _ hi (by omega) (by omega), Nat.add_assoc]
        · rw [ltF hi, condF, List.drop_of_length_le (by omega), Core.preL_nil]; rfl
    refine evw_run primsC (c.kids.length + 1) rfl rfl rfl ?_
    rw [nf41, aggS, bind_some', Core.cells_len, show Nat.beq 11 11 = true from rfl, condT]
    simp only [Core.c0, Core.c1, Core.c2, Core.c3, Core.c4, Core.c5, Core.c6, Core.c7, Core.c8, Core.c9, Core.c10]
    have := loop (c.kids.length + 1) 0 1 (Nat.zero_le _) (by omega) (by rw [List.drop_zero]; omega)
    rw [List.drop_zero] at this
    rw [Core.pre_eq, List.length_cons, Nat.add_comm (Core.preL c.kids).length 1]; exact this
  termination_by c => SizeOf.sizeOf c
  decreasing_by exact Core.size_kid hi

/- labels -/
def Core.labT (c : Core) : List (List AV) := bif c.k == 12 || c.k == 13 then [[.lit (.string c.df), .lit (.int .i64 c.nd)]] else []
def labsOf (l : List Core) : List (List AV) := (l.map Core.labT).flatten
theorem labA_eq (c : Core) : HC.L.labA (.agg c.cells) = some c.labT := by
  rw [Core.cells_eq, HC.L.labA]
  unfold Core.labT
  cases c.k == 12 || c.k == 13 <;> rfl
theorem labsA_eq : ∀ l : List Core, HC.L.labsA (l.map fun x => .agg x.cells) = some (labsOf l)
  | [] => by rw [List.map_nil, HC.L.labsA]; rfl
  | c :: r => by rw [List.map_cons, HC.L.labsA, labA_eq, bind_some', labsA_eq r]; rfl
theorem labsOf_len : ∀ l : List Core, (labsOf l).length ≤ l.length
  | [] => Nat.le_refl _
  | c :: r => by
    have := labsOf_len r
    show (c.labT ++ labsOf r).length ≤ _
    rw [List.length_append, List.length_cons]
    have : c.labT.length ≤ 1 := by unfold Core.labT; cases c.k == 12 || c.k == 13 <;> simp
    omega
theorem labsOf_append (l m : List Core) : labsOf (l ++ m) = labsOf l ++ labsOf m := by unfold labsOf; rw [List.map_append, List.flatten_append]
theorem labels43 (c : Core) (ok : c.Ok) (hv : c.vol ≤ 1048576) (h : Heap) : evw E 43 [.agg c.cells] h = some (.ret (.sl 2 (labsOf c.pre)), h) := by
  refine evw_prim primsC (p := p43) (by rfl) ?_
  have hl := Core.pre_vol c
  have hv : volC c.cells ≤ 1048576 := hv
  have h2 := labsOf_len c.pre
  show (HC.preC c.cells).bind _ = _
  rw [Core.preC_ok c ok, bind_some', labsA_eq, bind_some', show Nat.ble (labsOf c.pre).length maxApp = true from by rw [Nat.ble_eq]; unfold maxApp; omega, condT]
theorem slOf2 (l : List (List AV)) : slOf 2 (.sl 2 l) = some l := (Eq.refl _).trans rfl

theorem labels44 : ∀ (c : Core) (h : Heap), c.Ok → c.vol ≤ 1048576 → evw E 44 [.agg c.cells] h = some (.ret (.sl 2 (labsOf c.pre)), h)
  | c, h, ok, hv => by
    have hl : c.kids.length ≤ 9223372036854775807 := ok.len
    have hp := Core.pre_vol c
    rw [Core.pre_eq, List.length_cons] at hp
    have hv' : volC c.cells ≤ 1048576 := hv
    have loop : ∀ (q i : Nat) (acc : List (List AV)), i ≤ c.kids.length → c.kids.length < q + i → acc.length + (Core.preL (c.kids.drop i)).length ≤ 1048576 → Lp44_0 (evw E) (c.kids.length + 1) h q h (.lit (.int .i64 c.k)) (.lit (.int .i64 c.n)) (.lit (.int .i64 c.m)) (.lit (.bool c.inn)) (.lit (.string c.name)) (.lit (.string c.df)) (.lit (.int .i64 c.nd)) (.sl 5 (c.types.map Ty.cells)) (.sl 1 (c.labels.map strC)) (.sl 11 (c.kids.map Core.cells)) (.sl 10 (c.vals.map Val.cells)) acc (.lit (.int .i64 (i : Int))) = some (.ret (.sl 2 (acc ++ labsOf (Core.preL (c.kids.drop i)))), h) := by
      intro q
      induction q with
      | zero => intro i acc h1 h2; omega
      | succ q ih =>
        intro i acc h1 h2 h3
        rw [Lp44_0_succ]
        simp only [lenA54, bind_some', bin_int, lssI, boolB, List.length_map]
        by_cases hi : i < c.kids.length
        · have hrec := labels44 c.kids[i] h (ok.kid (List.getElem_mem hi)) (Nat.le_trans (Core.vol_kid (List.getElem_mem hi)) hv)
          rw [List.drop_eq_getElem_cons hi, Core.preL_cons, List.length_append] at h3
          have hll := labsOf_len (c.kids[i]).pre
          rw [ltT hi, condT, indexA_map _ _ _ _ hi, bind_some', partA_full (Core.cells_len _), bind_some', hrec, onOut_ret, slOf2, bind_some', show Nat.ble (acc.length + (labsOf (c.kids[i]).pre).length) maxApp = true from by rw [Nat.ble_eq]; unfold maxApp; omega, condT, addI, bind_some', incI (by omega)]
          rw [ih (i + 1) _ hi (by omega) (by rw [List.length_append]; omega), List.append_assoc, ← labsOf_append]
          rw [List.drop_eq_getElem_cons hi, Core.preL_cons]
        · rw [ltF hi, condF, List.drop_of_length_le (by omega), Core.preL_nil]
          show _ = some (Out.ret (.sl 2 (acc ++ [])), h)
          rw [List.append_nil]
    refine evw_run primsC (c.kids.length + 1) rfl rfl rfl ?_
    rw [nf44, aggS, bind_some', Core.cells_len, show Nat.beq 11 11 = true from rfl, condT]
    simp only [Core.c0, Core.c1, Core.c2, Core.c3, Core.c4, Core.c5, Core.c6, Core.c7, Core.c8, Core.c9, Core.c10, bin_int, eqlI, boolB, bind_some']
    have e1 : labsOf c.pre = c.labT ++ labsOf (Core.preL c.kids) := by rw [Core.pre_eq]; rfl
    rw [e1]
    unfold Core.labT
    have hb : Nat.ble ([[AV.lit (.string c.df), AV.lit (.int .i64 c.nd)]] : List (List AV)).length maxApp = true := rfl
    have l1 := loop (c.kids.length + 1) 0 [[.lit (.string c.df), .lit (.int .i64 c.nd)]] (Nat.zero_le _) (by omega) (by rw [List.drop_zero]; simp; omega)
    have l0 := loop (c.kids.length + 1) 0 [] (Nat.zero_le _) (by omega) (by rw [List.drop_zero]; simp; omega)
    rw [List.drop_zero] at l1 l0
    rw [hb]
    cases c.k == 12 with
    | true => rw [condT, condT, Bool.true_or, cond_true]; exact l1
    | false =>
      rw [condF]
      cases c.k == 13 with
      | true => rw [condT, condT, Bool.false_or, cond_true]; exact l1
      | false => rw [condF, Bool.or_self, cond_false]; exact l0
  termination_by c => SizeOf.sizeOf c
  decreasing_by exact Core.size_kid hi

theorem lenA61 (es : List (List AV)) : lenA E 61 (.sl 2 es) = some (es.length : Int) := (Eq.refl _).trans (by kernel_rfl)
/-- A list of labels is the same as itself. -/
theorem same42 (l : List Core) (hl : l.length ≤ 1048576) (h : Heap) : evw E 42 [.sl 2 (labsOf l), .sl 2 (labsOf l)] h = some (.ret (.lit (.bool true)), h) := by
  have hs : ∀ x ∈ labsOf l, ∃ (s : ByteArray) (n : Int), x = [.lit (.string s), .lit (.int .i64 n)] := by
    intro x hx
    unfold labsOf at hx
    obtain ⟨y, hy, hx⟩ := List.mem_flatten.1 hx
    obtain ⟨c, _, rfl⟩ := List.mem_map.1 hy
    unfold Core.labT at hx
    cases hk : c.k == 12 || c.k == 13 with
    | true => rw [hk] at hx; exact ⟨_, _, List.mem_singleton.1 hx⟩
    | false => rw [hk] at hx; cases hx
  have hlen := labsOf_len l
  generalize labsOf l = L at hs hlen
  have loop : ∀ (q i : Nat), i ≤ L.length → L.length < q + i → Lp42_0 (evw E) (L.length + 1) h q h (.sl 2 L) (.sl 2 L) (.lit (.int .i64 (i : Int))) = some (.ret (.lit (.bool true)), h) := by
    intro q
    induction q with
    | zero => intro i h1 h2; omega
    | succ q ih =>
      intro i h1 h2
      rw [Lp42_0_succ]
      simp only [lenA61, bind_some', bin_int, lssI, boolB]
      by_cases hi : i < L.length
      · have hix : indexA 2 (.sl 2 L) (.lit (.int .i64 (i : Int))) = some L[i] := by
          have := indexA_map L (fun x => x) 2 i hi
          rw [List.map_id'] at this; exact this
        obtain ⟨s, n, e⟩ := hs L[i] (List.getElem_mem hi)
        have hp : partA true 2 0 [AV.lit (.string s), AV.lit (.int .i64 n)] = some (.agg [.lit (.string s), .lit (.int .i64 n)]) := rfl
        rw [ltT hi, condT, condT, hix, bind_some', e]
        simp only [hp, bind_some']
        rw [label_ne, eqd_self, eqd_self, bind_some', boolB, bind_some', Bool.and_self, Bool.not_true, condF, addI, bind_some', incI (by omega)]
        exact ih (i + 1) hi (by omega)
      · rw [ltF hi, condF]
  refine evw_run primsC (L.length + 1) rfl rfl rfl ?_
  rw [nf42, lenA61, bind_some', bind_some', bin_int, neqI, bind_some', boolB, bind_some', show ((L.length : Int) != (L.length : Int)) = false from by simp, condF]
  exact loop (L.length + 1) 0 (Nat.zero_le _) (by omega)

theorem coreTells_row (c : Core) (oc : c.Ok) (hv : c.vol ≤ 1048576) (_ : List Nat) : evw E 6 [.agg c.cells] [] = some (.ret (.lit (.bool true)), []) := by
  have sl := Core.slim_vol c hv
  refine evw_run primsC 0 rfl rfl rfl ?_
  rw [nf6]
  simp only [aggS, bind_some', Core.cells_len, show Nat.beq 11 11 = true from rfl, condT, Core.re, much36 _ _ oc, onOut_ret, bin_int, gtrI, boolB, awake37]
  cases decide (c.much > 800) with
  | true => rfl
  | false =>
    have hl := Core.pre_vol c
    have hv' : volC c.cells ≤ 1048576 := hv
    simp only [condF, right38 c _ oc, right39 c _ oc, onOut_ret, eqB, eqd_self, bind_some', boolB, condT, nodes40 c oc hv, nodes41 c _ oc hv, bin_int, eqlE, labels43 c oc hv, labels44 c _ oc hv, same42 c.pre (Nat.le_trans hl hv'), bare46 c _ sl, bare47 c _ sl, same45 _ _ _ (Core.bare_ok c oc), awake37]
end Go.Sh.T
