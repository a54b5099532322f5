/- CoreD: part of the proof: a shadow of the machine that is proved sound, and what the functions of this seat compute. Conditions: none. -/
import Derived.Test.YtgjjdaillajgbaaCoreT
import Derived.Test.YtgjjdaillajgbaaCoreB
namespace Go.Sh.T
open Go Go.Sh Go.Proofs
set_option maxRecDepth 1000000
set_option linter.unusedVariables false
section
variable (F : Nat → List AV → Heap → R) (n : Nat) (h0 : Heap)
-- 6 limbeck/limbecklaw26.CoreTells
theorem nf6 (a0_ : AV) : runF E 6 Try.f6 F n [a0_] h0 = (aggOf a0_).bind fun l1 => cond (Nat.beq l1.length 11) (onOut (F 36 [.agg [(l1.getD 0 .dead), (l1.getD 1 .dead), (l1.getD 2 .dead), (l1.getD 3 .dead), (l1.getD 4 .dead), (l1.getD 5 .dead), (l1.getD 6 .dead), (l1.getD 7 .dead), (l1.getD 8 .dead), (l1.getD 9 .dead), (l1.getD 10 .dead)]] h0) (fun a2 h3 => (binAV E .gtr 3 a2 (.lit (.int .i64 800))).bind fun r4 => (boolOf r4).bind fun b5 => cond b5 (onOut (F 37 [] h3) (fun a6 h7 => some (.ret a6, h7)) (fun _ _ _ => none) (fun _ _ => none)) (onOut (F 38 [.agg [(l1.getD 0 .dead), (l1.getD 1 .dead), (l1.getD 2 .dead), (l1.getD 3 .dead), (l1.getD 4 .dead), (l1.getD 5 .dead), (l1.getD 6 .dead), (l1.getD 7 .dead), (l1.getD 8 .dead), (l1.getD 9 .dead), (l1.getD 10 .dead)]] h3) (fun a8 h9 => onOut (F 39 [.agg [(l1.getD 0 .dead), (l1.getD 1 .dead), (l1.getD 2 .dead), (l1.getD 3 .dead), (l1.getD 4 .dead), (l1.getD 5 .dead), (l1.getD 6 .dead), (l1.getD 7 .dead), (l1.getD 8 .dead), (l1.getD 9 .dead), (l1.getD 10 .dead)]] h9) (fun a10 h11 => (binAV E .eql 4 a8 a10).bind fun r12 => (boolOf r12).bind fun b13 => cond b13 (onOut (F 40 [.agg [(l1.getD 0 .dead), (l1.getD 1 .dead), (l1.getD 2 .dead), (l1.getD 3 .dead), (l1.getD 4 .dead), (l1.getD 5 .dead), (l1.getD 6 .dead), (l1.getD 7 .dead), (l1.getD 8 .dead), (l1.getD 9 .dead), (l1.getD 10 .dead)]] h11) (fun a14 h15 => onOut (F 41 [.agg [(l1.getD 0 .dead), (l1.getD 1 .dead), (l1.getD 2 .dead), (l1.getD 3 .dead), (l1.getD 4 .dead), (l1.getD 5 .dead), (l1.getD 6 .dead), (l1.getD 7 .dead), (l1.getD 8 .dead), (l1.getD 9 .dead), (l1.getD 10 .dead)]] h15) (fun a16 h17 => (binAV E .eql 3 a14 a16).bind fun r18 => (boolOf r18).bind fun b19 => cond b19 (onOut (F 43 [.agg [(l1.getD 0 .dead), (l1.getD 1 .dead), (l1.getD 2 .dead), (l1.getD 3 .dead), (l1.getD 4 .dead), (l1.getD 5 .dead), (l1.getD 6 .dead), (l1.getD 7 .dead), (l1.getD 8 .dead), (l1.getD 9 .dead), (l1.getD 10 .dead)]] h17) (fun a20 h21 => onOut (F 44 [.agg [(l1.getD 0 .dead), (l1.getD 1 .dead), (l1.getD 2 .dead), (l1.getD 3 .dead), (l1.getD 4 .dead), (l1.getD 5 .dead), (l1.getD 6 .dead), (l1.getD 7 .dead), (l1.getD 8 .dead), (l1.getD 9 .dead), (l1.getD 10 .dead)]] h21) (fun a22 h23 => onOut (F 42 [a20, a22] h23) (fun a24 h25 => (boolOf a24).bind fun b26 => cond b26 (onOut (F 46 [.agg [(l1.getD 0 .dead), (l1.getD 1 .dead), (l1.getD 2 .dead), (l1.getD 3 .dead), (l1.getD 4 .dead), (l1.getD 5 .dead), (l1.getD 6 .dead), (l1.getD 7 .dead), (l1.getD 8 .dead), (l1.getD 9 .dead), (l1.getD 10 .dead)]] h25) (fun a27 h28 => onOut (F 47 [.agg [(l1.getD 0 .dead), (l1.getD 1 .dead), (l1.getD 2 .dead), (l1.getD 3 .dead), (l1.getD 4 .dead), (l1.getD 5 .dead), (l1.getD 6 .dead), (l1.getD 7 .dead), (l1.getD 8 .dead), (l1.getD 9 .dead), (l1.getD 10 .dead)]] h28) (fun a29 h30 => onOut (F 45 [a27, a29] h30) (fun a31 h32 => (boolOf a31).bind fun b33 => cond b33 (onOut (F 37 [] h32) (fun a34 h35 => some (.ret a34, h35)) (fun _ _ _ => none) (fun _ _ => none)) (some (.ret (.lit (.bool false)), h32))) (fun _ _ _ => none) (fun _ _ => none)) (fun _ _ _ => none) (fun _ _ => none)) (fun _ _ _ => none) (fun _ _ => none)) (some (.ret (.lit (.bool false)), h25))) (fun _ _ _ => none) (fun _ _ => none)) (fun _ _ _ => none) (fun _ _ => none)) (fun _ _ _ => none) (fun _ _ => none)) (some (.ret (.lit (.bool false)), h17))) (fun _ _ _ => none) (fun _ _ => none)) (fun _ _ _ => none) (fun _ _ => none)) (some (.ret (.lit (.bool false)), h11))) (fun _ _ _ => none) (fun _ _ => none)) (fun _ _ _ => none) (fun _ _ => none))) (fun _ _ _ => none) (fun _ _ => none)) none := by kernel_rfl
-- 7 limbeck/limbecklaw26.CoreSame
theorem nf7 (a0_ : AV) (a1_ : AV) (a2_ : AV) (a3_ : AV) : runF E 7 Try.f7 F n [a0_, a1_, a2_, a3_] h0 = (aggOf a0_).bind fun l1 => cond (Nat.beq l1.length 11) ((aggOf a1_).bind fun l2 => cond (Nat.beq l2.length 11) ((aggOf a2_).bind fun l3 => cond (Nat.beq l3.length 10) ((aggOf a3_).bind fun l4 => cond (Nat.beq l4.length 10) (onOut (F 36 [.agg [(l1.getD 0 .dead), (l1.getD 1 .dead), (l1.getD 2 .dead), (l1.getD 3 .dead), (l1.getD 4 .dead), (l1.getD 5 .dead), (l1.getD 6 .dead), (l1.getD 7 .dead), (l1.getD 8 .dead), (l1.getD 9 .dead), (l1.getD 10 .dead)]] h0) (fun a5 h6 => (binAV E .gtr 3 a5 (.lit (.int .i64 800))).bind fun r7 => (boolOf r7).bind fun b8 => cond b8 (onOut (F 37 [] h6) (fun a9 h10 => some (.ret a9, h10)) (fun _ _ _ => none) (fun _ _ => none)) (onOut (F 36 [.agg [(l2.getD 0 .dead), (l2.getD 1 .dead), (l2.getD 2 .dead), (l2.getD 3 .dead), (l2.getD 4 .dead), (l2.getD 5 .dead), (l2.getD 6 .dead), (l2.getD 7 .dead), (l2.getD 8 .dead), (l2.getD 9 .dead), (l2.getD 10 .dead)]] h6) (fun a11 h12 => (binAV E .gtr 3 a11 (.lit (.int .i64 800))).bind fun r13 => (boolOf r13).bind fun b14 => cond b14 (onOut (F 37 [] h12) (fun a15 h16 => some (.ret a15, h16)) (fun _ _ _ => none) (fun _ _ => none)) (onOut (F 48 [.agg [(l3.getD 0 .dead), (l3.getD 1 .dead), (l3.getD 2 .dead), (l3.getD 3 .dead), (l3.getD 4 .dead), (l3.getD 5 .dead), (l3.getD 6 .dead), (l3.getD 7 .dead), (l3.getD 8 .dead), (l3.getD 9 .dead)]] h12) (fun a17 h18 => (binAV E .gtr 3 a17 (.lit (.int .i64 500))).bind fun r19 => (boolOf r19).bind fun b20 => cond b20 (onOut (F 37 [] h18) (fun a21 h22 => some (.ret a21, h22)) (fun _ _ _ => none) (fun _ _ => none)) (onOut (F 48 [.agg [(l4.getD 0 .dead), (l4.getD 1 .dead), (l4.getD 2 .dead), (l4.getD 3 .dead), (l4.getD 4 .dead), (l4.getD 5 .dead), (l4.getD 6 .dead), (l4.getD 7 .dead), (l4.getD 8 .dead), (l4.getD 9 .dead)]] h18) (fun a23 h24 => (binAV E .gtr 3 a23 (.lit (.int .i64 500))).bind fun r25 => (boolOf r25).bind fun b26 => cond b26 (onOut (F 37 [] h24) (fun a27 h28 => some (.ret a27, h28)) (fun _ _ _ => none) (fun _ _ => none)) (onOut (F 49 [.agg [(l1.getD 0 .dead), (l1.getD 1 .dead), (l1.getD 2 .dead), (l1.getD 3 .dead), (l1.getD 4 .dead), (l1.getD 5 .dead), (l1.getD 6 .dead), (l1.getD 7 .dead), (l1.getD 8 .dead), (l1.getD 9 .dead), (l1.getD 10 .dead)], .agg [(l2.getD 0 .dead), (l2.getD 1 .dead), (l2.getD 2 .dead), (l2.getD 3 .dead), (l2.getD 4 .dead), (l2.getD 5 .dead), (l2.getD 6 .dead), (l2.getD 7 .dead), (l2.getD 8 .dead), (l2.getD 9 .dead), (l2.getD 10 .dead)]] h24) (fun a29 h30 => onOut (F 45 [.agg [(l1.getD 0 .dead), (l1.getD 1 .dead), (l1.getD 2 .dead), (l1.getD 3 .dead), (l1.getD 4 .dead), (l1.getD 5 .dead), (l1.getD 6 .dead), (l1.getD 7 .dead), (l1.getD 8 .dead), (l1.getD 9 .dead), (l1.getD 10 .dead)], .agg [(l2.getD 0 .dead), (l2.getD 1 .dead), (l2.getD 2 .dead), (l2.getD 3 .dead), (l2.getD 4 .dead), (l2.getD 5 .dead), (l2.getD 6 .dead), (l2.getD 7 .dead), (l2.getD 8 .dead), (l2.getD 9 .dead), (l2.getD 10 .dead)]] h30) (fun a31 h32 => (binAV E .eql 4 a29 a31).bind fun r33 => (boolOf r33).bind fun b34 => cond b34 (onOut (F 49 [.agg [(l1.getD 0 .dead), (l1.getD 1 .dead), (l1.getD 2 .dead), (l1.getD 3 .dead), (l1.getD 4 .dead), (l1.getD 5 .dead), (l1.getD 6 .dead), (l1.getD 7 .dead), (l1.getD 8 .dead), (l1.getD 9 .dead), (l1.getD 10 .dead)], .agg [(l1.getD 0 .dead), (l1.getD 1 .dead), (l1.getD 2 .dead), (l1.getD 3 .dead), (l1.getD 4 .dead), (l1.getD 5 .dead), (l1.getD 6 .dead), (l1.getD 7 .dead), (l1.getD 8 .dead), (l1.getD 9 .dead), (l1.getD 10 .dead)]] h32) (fun a35 h36 => (boolOf a35).bind fun b37 => cond b37 (onOut (F 50 [.agg [(l3.getD 0 .dead), (l3.getD 1 .dead), (l3.getD 2 .dead), (l3.getD 3 .dead), (l3.getD 4 .dead), (l3.getD 5 .dead), (l3.getD 6 .dead), (l3.getD 7 .dead), (l3.getD 8 .dead), (l3.getD 9 .dead)], .agg [(l4.getD 0 .dead), (l4.getD 1 .dead), (l4.getD 2 .dead), (l4.getD 3 .dead), (l4.getD 4 .dead), (l4.getD 5 .dead), (l4.getD 6 .dead), (l4.getD 7 .dead), (l4.getD 8 .dead), (l4.getD 9 .dead)]] h36) (fun a38 h39 => onOut (F 51 [.agg [(l3.getD 0 .dead), (l3.getD 1 .dead), (l3.getD 2 .dead), (l3.getD 3 .dead), (l3.getD 4 .dead), (l3.getD 5 .dead), (l3.getD 6 .dead), (l3.getD 7 .dead), (l3.getD 8 .dead), (l3.getD 9 .dead)], .agg [(l4.getD 0 .dead), (l4.getD 1 .dead), (l4.getD 2 .dead), (l4.getD 3 .dead), (l4.getD 4 .dead), (l4.getD 5 .dead), (l4.getD 6 .dead), (l4.getD 7 .dead), (l4.getD 8 .dead), (l4.getD 9 .dead)]] h39) (fun a40 h41 => (binAV E .eql 4 a38 a40).bind fun r42 => (boolOf r42).bind fun b43 => cond b43 (onOut (F 50 [.agg [(l3.getD 0 .dead), (l3.getD 1 .dead), (l3.getD 2 .dead), (l3.getD 3 .dead), (l3.getD 4 .dead), (l3.getD 5 .dead), (l3.getD 6 .dead), (l3.getD 7 .dead), (l3.getD 8 .dead), (l3.getD 9 .dead)], .agg [(l3.getD 0 .dead), (l3.getD 1 .dead), (l3.getD 2 .dead), (l3.getD 3 .dead), (l3.getD 4 .dead), (l3.getD 5 .dead), (l3.getD 6 .dead), (l3.getD 7 .dead), (l3.getD 8 .dead), (l3.getD 9 .dead)]] h41) (fun a44 h45 => (boolOf a44).bind fun b46 => cond b46 (onOut (F 37 [] h45) (fun a47 h48 => some (.ret a47, h48)) (fun _ _ _ => none) (fun _ _ => none)) (some (.ret (.lit (.bool false)), h45))) (fun _ _ _ => none) (fun _ _ => none)) (some (.ret (.lit (.bool false)), h41))) (fun _ _ _ => none) (fun _ _ => none)) (fun _ _ _ => none) (fun _ _ => none)) (some (.ret (.lit (.bool false)), h36))) (fun _ _ _ => none) (fun _ _ => none)) (some (.ret (.lit (.bool false)), h32))) (fun _ _ _ => none) (fun _ _ => none)) (fun _ _ _ => none) (fun _ _ => none))) (fun _ _ _ => none) (fun _ _ => none))) (fun _ _ _ => none) (fun _ _ => none))) (fun _ _ _ => none) (fun _ _ => none))) (fun _ _ _ => none) (fun _ _ => none)) none) none) none) none := by kernel_rfl
-- 8 limbeck/limbecklaw26.CoreTwice
theorem nf8 (a0_ : AV) (a1_ : AV) (a2_ : AV) (a3_ : AV) (a4_ : AV) : runF E 8 Try.f8 F n [a0_, a1_, a2_, a3_, a4_] h0 = (aggOf a0_).bind fun l1 => cond (Nat.beq l1.length 11) ((aggOf a3_).bind fun l2 => cond (Nat.beq l2.length 10) ((aggOf a4_).bind fun l3 => cond (Nat.beq l3.length 10) (onOut (F 36 [.agg [(l1.getD 0 .dead), (l1.getD 1 .dead), (l1.getD 2 .dead), (l1.getD 3 .dead), (l1.getD 4 .dead), (l1.getD 5 .dead), (l1.getD 6 .dead), (l1.getD 7 .dead), (l1.getD 8 .dead), (l1.getD 9 .dead), (l1.getD 10 .dead)]] h0) (fun a4 h5 => (binAV E .gtr 3 a4 (.lit (.int .i64 500))).bind fun r6 => (boolOf r6).bind fun b7 => cond b7 (onOut (F 37 [] h5) (fun a8 h9 => some (.ret a8, h9)) (fun _ _ _ => none) (fun _ _ => none)) (onOut (F 48 [.agg [(l2.getD 0 .dead), (l2.getD 1 .dead), (l2.getD 2 .dead), (l2.getD 3 .dead), (l2.getD 4 .dead), (l2.getD 5 .dead), (l2.getD 6 .dead), (l2.getD 7 .dead), (l2.getD 8 .dead), (l2.getD 9 .dead)]] h5) (fun a10 h11 => (binAV E .gtr 3 a10 (.lit (.int .i64 200))).bind fun r12 => (boolOf r12).bind fun b13 => cond b13 (onOut (F 37 [] h11) (fun a14 h15 => some (.ret a14, h15)) (fun _ _ _ => none) (fun _ _ => none)) (onOut (F 48 [.agg [(l3.getD 0 .dead), (l3.getD 1 .dead), (l3.getD 2 .dead), (l3.getD 3 .dead), (l3.getD 4 .dead), (l3.getD 5 .dead), (l3.getD 6 .dead), (l3.getD 7 .dead), (l3.getD 8 .dead), (l3.getD 9 .dead)]] h11) (fun a16 h17 => (binAV E .gtr 3 a16 (.lit (.int .i64 200))).bind fun r18 => (boolOf r18).bind fun b19 => cond b19 (onOut (F 37 [] h17) (fun a20 h21 => some (.ret a20, h21)) (fun _ _ _ => none) (fun _ _ => none)) ((binAV E .eql 9 a1_ a2_).bind fun r22 => (boolOf r22).bind fun b23 => cond b23 (onOut (F 37 [] h17) (fun a24 h25 => some (.ret a24, h25)) (fun _ _ _ => none) (fun _ _ => none)) (onOut (F 52 [.agg [(l1.getD 0 .dead), (l1.getD 1 .dead), (l1.getD 2 .dead), (l1.getD 3 .dead), (l1.getD 4 .dead), (l1.getD 5 .dead), (l1.getD 6 .dead), (l1.getD 7 .dead), (l1.getD 8 .dead), (l1.getD 9 .dead), (l1.getD 10 .dead)], a1_, .agg [(l2.getD 0 .dead), (l2.getD 1 .dead), (l2.getD 2 .dead), (l2.getD 3 .dead), (l2.getD 4 .dead), (l2.getD 5 .dead), (l2.getD 6 .dead), (l2.getD 7 .dead), (l2.getD 8 .dead), (l2.getD 9 .dead)]] h17) (fun a26 h27 => onOut (F 52 [a26, a2_, .agg [(l3.getD 0 .dead), (l3.getD 1 .dead), (l3.getD 2 .dead), (l3.getD 3 .dead), (l3.getD 4 .dead), (l3.getD 5 .dead), (l3.getD 6 .dead), (l3.getD 7 .dead), (l3.getD 8 .dead), (l3.getD 9 .dead)]] h27) (fun a28 h29 => onOut (F 52 [.agg [(l1.getD 0 .dead), (l1.getD 1 .dead), (l1.getD 2 .dead), (l1.getD 3 .dead), (l1.getD 4 .dead), (l1.getD 5 .dead), (l1.getD 6 .dead), (l1.getD 7 .dead), (l1.getD 8 .dead), (l1.getD 9 .dead), (l1.getD 10 .dead)], a2_, .agg [(l3.getD 0 .dead), (l3.getD 1 .dead), (l3.getD 2 .dead), (l3.getD 3 .dead), (l3.getD 4 .dead), (l3.getD 5 .dead), (l3.getD 6 .dead), (l3.getD 7 .dead), (l3.getD 8 .dead), (l3.getD 9 .dead)]] h29) (fun a30 h31 => onOut (F 52 [a30, a1_, .agg [(l2.getD 0 .dead), (l2.getD 1 .dead), (l2.getD 2 .dead), (l2.getD 3 .dead), (l2.getD 4 .dead), (l2.getD 5 .dead), (l2.getD 6 .dead), (l2.getD 7 .dead), (l2.getD 8 .dead), (l2.getD 9 .dead)]] h31) (fun a32 h33 => (aggOf a28).bind fun l34 => cond (Nat.beq l34.length 11) ((aggOf a32).bind fun l35 => cond (Nat.beq l35.length 11) (onOut (F 52 [.agg [(l1.getD 0 .dead), (l1.getD 1 .dead), (l1.getD 2 .dead), (l1.getD 3 .dead), (l1.getD 4 .dead), (l1.getD 5 .dead), (l1.getD 6 .dead), (l1.getD 7 .dead), (l1.getD 8 .dead), (l1.getD 9 .dead), (l1.getD 10 .dead)], a1_, .agg [(l2.getD 0 .dead), (l2.getD 1 .dead), (l2.getD 2 .dead), (l2.getD 3 .dead), (l2.getD 4 .dead), (l2.getD 5 .dead), (l2.getD 6 .dead), (l2.getD 7 .dead), (l2.getD 8 .dead), (l2.getD 9 .dead)]] h33) (fun a36 h37 => (aggOf a36).bind fun l38 => cond (Nat.beq l38.length 11) (onOut (F 46 [.agg [(l1.getD 0 .dead), (l1.getD 1 .dead), (l1.getD 2 .dead), (l1.getD 3 .dead), (l1.getD 4 .dead), (l1.getD 5 .dead), (l1.getD 6 .dead), (l1.getD 7 .dead), (l1.getD 8 .dead), (l1.getD 9 .dead), (l1.getD 10 .dead)]] h37) (fun a39 h40 => (aggOf a39).bind fun l41 => cond (Nat.beq l41.length 11) (onOut (F 45 [.agg [(l34.getD 0 .dead), (l34.getD 1 .dead), (l34.getD 2 .dead), (l34.getD 3 .dead), (l34.getD 4 .dead), (l34.getD 5 .dead), (l34.getD 6 .dead), (l34.getD 7 .dead), (l34.getD 8 .dead), (l34.getD 9 .dead), (l34.getD 10 .dead)], .agg [(l35.getD 0 .dead), (l35.getD 1 .dead), (l35.getD 2 .dead), (l35.getD 3 .dead), (l35.getD 4 .dead), (l35.getD 5 .dead), (l35.getD 6 .dead), (l35.getD 7 .dead), (l35.getD 8 .dead), (l35.getD 9 .dead), (l35.getD 10 .dead)]] h40) (fun a42 h43 => (unAV .not a42).bind fun r44 => (boolOf r44).bind fun b45 => cond b45 (some (.ret (.lit (.bool false)), h43)) (onOut (F 52 [.agg [(l38.getD 0 .dead), (l38.getD 1 .dead), (l38.getD 2 .dead), (l38.getD 3 .dead), (l38.getD 4 .dead), (l38.getD 5 .dead), (l38.getD 6 .dead), (l38.getD 7 .dead), (l38.getD 8 .dead), (l38.getD 9 .dead), (l38.getD 10 .dead)], a1_, .agg [(l3.getD 0 .dead), (l3.getD 1 .dead), (l3.getD 2 .dead), (l3.getD 3 .dead), (l3.getD 4 .dead), (l3.getD 5 .dead), (l3.getD 6 .dead), (l3.getD 7 .dead), (l3.getD 8 .dead), (l3.getD 9 .dead)]] h43) (fun a46 h47 => onOut (F 45 [a46, .agg [(l38.getD 0 .dead), (l38.getD 1 .dead), (l38.getD 2 .dead), (l38.getD 3 .dead), (l38.getD 4 .dead), (l38.getD 5 .dead), (l38.getD 6 .dead), (l38.getD 7 .dead), (l38.getD 8 .dead), (l38.getD 9 .dead), (l38.getD 10 .dead)]] h47) (fun a48 h49 => (unAV .not a48).bind fun r50 => (boolOf r50).bind fun b51 => cond b51 (some (.ret (.lit (.bool false)), h49)) (onOut (F 46 [.agg [(l41.getD 0 .dead), (l41.getD 1 .dead), (l41.getD 2 .dead), (l41.getD 3 .dead), (l41.getD 4 .dead), (l41.getD 5 .dead), (l41.getD 6 .dead), (l41.getD 7 .dead), (l41.getD 8 .dead), (l41.getD 9 .dead), (l41.getD 10 .dead)]] h49) (fun a52 h53 => onOut (F 45 [a52, .agg [(l41.getD 0 .dead), (l41.getD 1 .dead), (l41.getD 2 .dead), (l41.getD 3 .dead), (l41.getD 4 .dead), (l41.getD 5 .dead), (l41.getD 6 .dead), (l41.getD 7 .dead), (l41.getD 8 .dead), (l41.getD 9 .dead), (l41.getD 10 .dead)]] h53) (fun a54 h55 => (unAV .not a54).bind fun r56 => (boolOf r56).bind fun b57 => cond b57 (some (.ret (.lit (.bool false)), h55)) (onOut (F 46 [.agg [(l38.getD 0 .dead), (l38.getD 1 .dead), (l38.getD 2 .dead), (l38.getD 3 .dead), (l38.getD 4 .dead), (l38.getD 5 .dead), (l38.getD 6 .dead), (l38.getD 7 .dead), (l38.getD 8 .dead), (l38.getD 9 .dead), (l38.getD 10 .dead)]] h55) (fun a58 h59 => onOut (F 52 [.agg [(l41.getD 0 .dead), (l41.getD 1 .dead), (l41.getD 2 .dead), (l41.getD 3 .dead), (l41.getD 4 .dead), (l41.getD 5 .dead), (l41.getD 6 .dead), (l41.getD 7 .dead), (l41.getD 8 .dead), (l41.getD 9 .dead), (l41.getD 10 .dead)], a1_, .agg [(l2.getD 0 .dead), (l2.getD 1 .dead), (l2.getD 2 .dead), (l2.getD 3 .dead), (l2.getD 4 .dead), (l2.getD 5 .dead), (l2.getD 6 .dead), (l2.getD 7 .dead), (l2.getD 8 .dead), (l2.getD 9 .dead)]] h59) (fun a60 h61 => onOut (F 45 [a58, a60] h61) (fun a62 h63 => (boolOf a62).bind fun b64 => cond b64 (onOut (F 37 [] h63) (fun a65 h66 => some (.ret a65, h66)) (fun _ _ _ => none) (fun _ _ => none)) (some (.ret (.lit (.bool false)), h63))) (fun _ _ _ => none) (fun _ _ => none)) (fun _ _ _ => none) (fun _ _ => none)) (fun _ _ _ => none) (fun _ _ => none))) (fun _ _ _ => none) (fun _ _ => none)) (fun _ _ _ => none) (fun _ _ => none))) (fun _ _ _ => none) (fun _ _ => none)) (fun _ _ _ => none) (fun _ _ => none))) (fun _ _ _ => none) (fun _ _ => none)) none) (fun _ _ _ => none) (fun _ _ => none)) none) (fun _ _ _ => none) (fun _ _ => none)) none) none) (fun _ _ _ => none) (fun _ _ => none)) (fun _ _ _ => none) (fun _ _ => none)) (fun _ _ _ => none) (fun _ _ => none)) (fun _ _ _ => none) (fun _ _ => none)))) (fun _ _ _ => none) (fun _ _ => none))) (fun _ _ _ => none) (fun _ _ => none))) (fun _ _ _ => none) (fun _ _ => none)) none) none) none := by kernel_rfl
-- 9 limbeck/limbecklaw26.CorePuts
theorem nf9 (a0_ : AV) (a1_ : AV) (a2_ : AV) (a3_ : AV) (a4_ : AV) : runF E 9 Try.f9 F n [a0_, a1_, a2_, a3_, a4_] h0 = (aggOf a0_).bind fun l1 => cond (Nat.beq l1.length 11) ((aggOf a2_).bind fun l2 => cond (Nat.beq l2.length 10) (onOut (F 36 [.agg [(l1.getD 0 .dead), (l1.getD 1 .dead), (l1.getD 2 .dead), (l1.getD 3 .dead), (l1.getD 4 .dead), (l1.getD 5 .dead), (l1.getD 6 .dead), (l1.getD 7 .dead), (l1.getD 8 .dead), (l1.getD 9 .dead), (l1.getD 10 .dead)]] h0) (fun a3 h4 => (binAV E .gtr 3 a3 (.lit (.int .i64 500))).bind fun r5 => (boolOf r5).bind fun b6 => cond b6 (onOut (F 37 [] h4) (fun a7 h8 => some (.ret a7, h8)) (fun _ _ _ => none) (fun _ _ => none)) (onOut (F 48 [.agg [(l2.getD 0 .dead), (l2.getD 1 .dead), (l2.getD 2 .dead), (l2.getD 3 .dead), (l2.getD 4 .dead), (l2.getD 5 .dead), (l2.getD 6 .dead), (l2.getD 7 .dead), (l2.getD 8 .dead), (l2.getD 9 .dead)]] h4) (fun a9 h10 => (binAV E .gtr 3 a9 (.lit (.int .i64 200))).bind fun r11 => (boolOf r11).bind fun b12 => cond b12 (onOut (F 37 [] h10) (fun a13 h14 => some (.ret a13, h14)) (fun _ _ _ => none) (fun _ _ => none)) ((lenA E 31 a3_).bind fun n15 => (binAV E .gtr 3 (.lit (.int .i64 n15)) (.lit (.int .i64 20))).bind fun r16 => (boolOf r16).bind fun b17 => cond b17 (onOut (F 37 [] h10) (fun a18 h19 => some (.ret a18, h19)) (fun _ _ _ => none) (fun _ _ => none)) (onOut (F 52 [.agg [(l1.getD 0 .dead), (l1.getD 1 .dead), (l1.getD 2 .dead), (l1.getD 3 .dead), (l1.getD 4 .dead), (l1.getD 5 .dead), (l1.getD 6 .dead), (l1.getD 7 .dead), (l1.getD 8 .dead), (l1.getD 9 .dead), (l1.getD 10 .dead)], a1_, .agg [(l2.getD 0 .dead), (l2.getD 1 .dead), (l2.getD 2 .dead), (l2.getD 3 .dead), (l2.getD 4 .dead), (l2.getD 5 .dead), (l2.getD 6 .dead), (l2.getD 7 .dead), (l2.getD 8 .dead), (l2.getD 9 .dead)]] h10) (fun a20 h21 => onOut (F 53 [.agg [(l1.getD 0 .dead), (l1.getD 1 .dead), (l1.getD 2 .dead), (l1.getD 3 .dead), (l1.getD 4 .dead), (l1.getD 5 .dead), (l1.getD 6 .dead), (l1.getD 7 .dead), (l1.getD 8 .dead), (l1.getD 9 .dead), (l1.getD 10 .dead)], a1_, .agg [(l2.getD 0 .dead), (l2.getD 1 .dead), (l2.getD 2 .dead), (l2.getD 3 .dead), (l2.getD 4 .dead), (l2.getD 5 .dead), (l2.getD 6 .dead), (l2.getD 7 .dead), (l2.getD 8 .dead), (l2.getD 9 .dead)]] h21) (fun a22 h23 => onOut (F 45 [a20, a22] h23) (fun a24 h25 => (boolOf a24).bind fun b26 => cond b26 (onOut (F 54 [.agg [(l1.getD 0 .dead), (l1.getD 1 .dead), (l1.getD 2 .dead), (l1.getD 3 .dead), (l1.getD 4 .dead), (l1.getD 5 .dead), (l1.getD 6 .dead), (l1.getD 7 .dead), (l1.getD 8 .dead), (l1.getD 9 .dead), (l1.getD 10 .dead)], a3_, a4_] h25) (fun a27 h28 => onOut (F 55 [.agg [(l1.getD 0 .dead), (l1.getD 1 .dead), (l1.getD 2 .dead), (l1.getD 3 .dead), (l1.getD 4 .dead), (l1.getD 5 .dead), (l1.getD 6 .dead), (l1.getD 7 .dead), (l1.getD 8 .dead), (l1.getD 9 .dead), (l1.getD 10 .dead)], a3_, a4_] h28) (fun a29 h30 => onOut (F 45 [a27, a29] h30) (fun a31 h32 => (boolOf a31).bind fun b33 => cond b33 (onOut (F 37 [] h32) (fun a34 h35 => some (.ret a34, h35)) (fun _ _ _ => none) (fun _ _ => none)) (some (.ret (.lit (.bool false)), h32))) (fun _ _ _ => none) (fun _ _ => none)) (fun _ _ _ => none) (fun _ _ => none)) (fun _ _ _ => none) (fun _ _ => none)) (some (.ret (.lit (.bool false)), h25))) (fun _ _ _ => none) (fun _ _ => none)) (fun _ _ _ => none) (fun _ _ => none)) (fun _ _ _ => none) (fun _ _ => none)))) (fun _ _ _ => none) (fun _ _ => none))) (fun _ _ _ => none) (fun _ _ => none)) none) none := by kernel_rfl
-- 36 limbeck/limbecklaw26.Much
noncomputable def Lp36_2 (m : Nat) (h : Heap) (x58 : AV) (x59 : AV) (x60 : AV) (x61 : AV) (x62 : AV) (x63 : AV) (x64 : AV) (x65 : AV) (x66 : AV) (x67 : AV) (x68 : AV) (x69 : AV) (x70 : AV) : R := loopAt E 36 Try.f36 F n h0 [.r, .r, .r, .r, .l, .r, .b] m { s := lkS [(1, .loc [.v x58, .v x59, .v x60, .v x61, .v x62, .v x63, .v x64, .v x65, .v x66, .v x67, .v x68]), (3, .c (.v x69)), (6, .c (.v x70))], h := h }
theorem Lp36_2_zero (h : Heap) (x58 : AV) (x59 : AV) (x60 : AV) (x61 : AV) (x62 : AV) (x63 : AV) (x64 : AV) (x65 : AV) (x66 : AV) (x67 : AV) (x68 : AV) (x69 : AV) (x70 : AV) : Lp36_2 F n h0 0 h x58 x59 x60 x61 x62 x63 x64 x65 x66 x67 x68 x69 x70 = none := by kernel_rfl
theorem Lp36_2_succ (m : Nat) (h : Heap) (x58 : AV) (x59 : AV) (x60 : AV) (x61 : AV) (x62 : AV) (x63 : AV) (x64 : AV) (x65 : AV) (x66 : AV) (x67 : AV) (x68 : AV) (x69 : AV) (x70 : AV) : Lp36_2 F n h0 (m + 1) h x58 x59 x60 x61 x62 x63 x64 x65 x66 x67 x68 x69 x70 = (lenA E 54 x67).bind fun n71 => (binAV E .lss 3 x70 (.lit (.int .i64 n71))).bind fun r72 => (boolOf r72).bind fun b73 => cond b73 ((binAV E .lss 3 x69 (.lit (.int .i64 3000))).bind fun r74 => (boolOf r74).bind fun b75 => cond b75 ((indexA 11 x67 x70).bind fun e76 => (partA true 11 0 e76).bind fun v77 => onOut (F 36 [v77] h) (fun a78 h79 => (binAV E .add 3 x69 a78).bind fun r80 => (binAV E .add 3 x70 (.lit (.int .i64 1))).bind fun r81 => Lp36_2 F n h0 m h79 x58 x59 x60 x61 x62 x63 x64 x65 x66 x67 x68 r80 r81) (fun _ _ _ => none) (fun _ _ => none)) (some (.ret x69, h))) (some (.ret x69, h)) := by kernel_rfl
noncomputable def Lp36_1 (m : Nat) (h : Heap) (x34 : AV) (x35 : AV) (x36 : AV) (x37 : AV) (x38 : AV) (x39 : AV) (x40 : AV) (x41 : AV) (x42 : AV) (x43 : AV) (x44 : AV) (x45 : AV) (x46 : AV) : R := loopAt E 36 Try.f36 F n h0 [.r, .r, .r, .l, .r, .b] m { s := lkS [(1, .loc [.v x34, .v x35, .v x36, .v x37, .v x38, .v x39, .v x40, .v x41, .v x42, .v x43, .v x44]), (3, .c (.v x45)), (5, .c (.v x46))], h := h }
theorem Lp36_1_zero (h : Heap) (x34 : AV) (x35 : AV) (x36 : AV) (x37 : AV) (x38 : AV) (x39 : AV) (x40 : AV) (x41 : AV) (x42 : AV) (x43 : AV) (x44 : AV) (x45 : AV) (x46 : AV) : Lp36_1 F n h0 0 h x34 x35 x36 x37 x38 x39 x40 x41 x42 x43 x44 x45 x46 = none := by kernel_rfl
theorem Lp36_1_succ (m : Nat) (h : Heap) (x34 : AV) (x35 : AV) (x36 : AV) (x37 : AV) (x38 : AV) (x39 : AV) (x40 : AV) (x41 : AV) (x42 : AV) (x43 : AV) (x44 : AV) (x45 : AV) (x46 : AV) : Lp36_1 F n h0 (m + 1) h x34 x35 x36 x37 x38 x39 x40 x41 x42 x43 x44 x45 x46 = (lenA E 55 x44).bind fun n47 => (binAV E .lss 3 x46 (.lit (.int .i64 n47))).bind fun r48 => (boolOf r48).bind fun b49 => cond b49 ((binAV E .lss 3 x45 (.lit (.int .i64 3000))).bind fun r50 => (boolOf r50).bind fun b51 => cond b51 ((indexA 10 x44 x46).bind fun e52 => (partA true 10 0 e52).bind fun v53 => onOut (F 48 [v53] h) (fun a54 h55 => (binAV E .add 3 x45 a54).bind fun r56 => (binAV E .add 3 x46 (.lit (.int .i64 1))).bind fun r57 => Lp36_1 F n h0 m h55 x34 x35 x36 x37 x38 x39 x40 x41 x42 x43 x44 r56 r57) (fun _ _ _ => none) (fun _ _ => none)) (Lp36_2 F n h0 n h x34 x35 x36 x37 x38 x39 x40 x41 x42 x43 x44 x45 (.lit (.int .i64 0)))) (Lp36_2 F n h0 n h x34 x35 x36 x37 x38 x39 x40 x41 x42 x43 x44 x45 (.lit (.int .i64 0))) := by kernel_rfl
noncomputable def Lp36_0 (m : Nat) (h : Heap) (x10 : AV) (x11 : AV) (x12 : AV) (x13 : AV) (x14 : AV) (x15 : AV) (x16 : AV) (x17 : AV) (x18 : AV) (x19 : AV) (x20 : AV) (x21 : AV) (x22 : AV) : R := loopAt E 36 Try.f36 F n h0 [.r, .r, .l, .r, .b] m { s := lkS [(1, .loc [.v x10, .v x11, .v x12, .v x13, .v x14, .v x15, .v x16, .v x17, .v x18, .v x19, .v x20]), (3, .c (.v x21)), (4, .c (.v x22))], h := h }
theorem Lp36_0_zero (h : Heap) (x10 : AV) (x11 : AV) (x12 : AV) (x13 : AV) (x14 : AV) (x15 : AV) (x16 : AV) (x17 : AV) (x18 : AV) (x19 : AV) (x20 : AV) (x21 : AV) (x22 : AV) : Lp36_0 F n h0 0 h x10 x11 x12 x13 x14 x15 x16 x17 x18 x19 x20 x21 x22 = none := by kernel_rfl
theorem Lp36_0_succ (m : Nat) (h : Heap) (x10 : AV) (x11 : AV) (x12 : AV) (x13 : AV) (x14 : AV) (x15 : AV) (x16 : AV) (x17 : AV) (x18 : AV) (x19 : AV) (x20 : AV) (x21 : AV) (x22 : AV) : Lp36_0 F n h0 (m + 1) h x10 x11 x12 x13 x14 x15 x16 x17 x18 x19 x20 x21 x22 = (lenA E 29 x17).bind fun n23 => (binAV E .lss 3 x22 (.lit (.int .i64 n23))).bind fun r24 => (boolOf r24).bind fun b25 => cond b25 ((binAV E .lss 3 x21 (.lit (.int .i64 3000))).bind fun r26 => (boolOf r26).bind fun b27 => cond b27 ((indexA 5 x17 x22).bind fun e28 => (partA true 5 0 e28).bind fun v29 => onOut (F 24 [v29] h) (fun a30 h31 => (binAV E .add 3 x21 a30).bind fun r32 => (binAV E .add 3 x22 (.lit (.int .i64 1))).bind fun r33 => Lp36_0 F n h0 m h31 x10 x11 x12 x13 x14 x15 x16 x17 x18 x19 x20 r32 r33) (fun _ _ _ => none) (fun _ _ => none)) (Lp36_1 F n h0 n h x10 x11 x12 x13 x14 x15 x16 x17 x18 x19 x20 x21 (.lit (.int .i64 0)))) (Lp36_1 F n h0 n h x10 x11 x12 x13 x14 x15 x16 x17 x18 x19 x20 x21 (.lit (.int .i64 0))) := by kernel_rfl
theorem nf36 (a0_ : AV) : runF E 36 Try.f36 F n [a0_] h0 = (aggOf a0_).bind fun l1 => cond (Nat.beq l1.length 11) ((lenA E 9 (l1.getD 4 .dead)).bind fun n2 => (binAV E .quo 3 (.lit (.int .i64 n2)) (.lit (.int .i64 8))).bind fun r3 => (binAV E .add 3 (.lit (.int .i64 1)) r3).bind fun r4 => (lenA E 31 (l1.getD 8 .dead)).bind fun n5 => (binAV E .add 3 r4 (.lit (.int .i64 n5))).bind fun r6 => (lenA E 9 (l1.getD 5 .dead)).bind fun n7 => (binAV E .quo 3 (.lit (.int .i64 n7)) (.lit (.int .i64 8))).bind fun r8 => (binAV E .add 3 r6 r8).bind fun r9 => Lp36_0 F n h0 n h0 (l1.getD 0 .dead) (l1.getD 1 .dead) (l1.getD 2 .dead) (l1.getD 3 .dead) (l1.getD 4 .dead) (l1.getD 5 .dead) (l1.getD 6 .dead) (l1.getD 7 .dead) (l1.getD 8 .dead) (l1.getD 9 .dead) (l1.getD 10 .dead) r9 (.lit (.int .i64 0))) none := by kernel_rfl
-- 37 limbeck/limbecklaw26.awake
theorem nf37 : runF E 37 Try.f37 F n [] h0 = onOut (F 72 [.lit (.int .i64 1)] h0) (fun a1 h2 => onOut (F 68 [] h2) (fun a3 h4 => (aggOf a1).bind fun l5 => cond (Nat.beq l5.length 5) ((aggOf a3).bind fun l6 => cond (Nat.beq l6.length 5) (onOut (F 52 [.agg [.lit (.int .i64 12), .lit (.int .i64 0), .lit (.int .i64 0), .lit (.bool false), .lit (.string ByteArray.empty), .lit (.string ⟨#[102]⟩), .lit (.int .i64 3), .sl 5 [[(l5.getD 0 .dead), (l5.getD 1 .dead), (l5.getD 2 .dead), (l5.getD 3 .dead), (l5.getD 4 .dead)], [(l6.getD 0 .dead), (l6.getD 1 .dead), (l6.getD 2 .dead), (l6.getD 3 .dead), (l6.getD 4 .dead)]], .sl 1 [], .sl 11 [[.lit (.int .i64 4), .lit (.int .i64 0), .lit (.int .i64 0), .lit (.bool false), .lit (.string ⟨#[120]⟩), .lit (.string ByteArray.empty), .lit (.int .i64 0), .sl 5 [], .sl 1 [], .sl 11 [], .sl 10 []]], .sl 10 []], .lit (.string ⟨#[120]⟩), .agg [.lit (.int .i64 1), .lit (.int .i64 4), .lit (.int .i64 0), .lit (.bool false), .lit (.string ByteArray.empty), .lit (.string ByteArray.empty), .lit (.int .i64 0), .sl 5 [], .sl 1 [], .sl 10 []]] h4) (fun a7 h8 => (aggOf a7).bind fun l9 => cond (Nat.beq l9.length 11) (onOut (F 38 [.agg [.lit (.int .i64 12), .lit (.int .i64 0), .lit (.int .i64 0), .lit (.bool false), .lit (.string ByteArray.empty), .lit (.string ⟨#[102]⟩), .lit (.int .i64 3), .sl 5 [[(l5.getD 0 .dead), (l5.getD 1 .dead), (l5.getD 2 .dead), (l5.getD 3 .dead), (l5.getD 4 .dead)], [(l6.getD 0 .dead), (l6.getD 1 .dead), (l6.getD 2 .dead), (l6.getD 3 .dead), (l6.getD 4 .dead)]], .sl 1 [], .sl 11 [[.lit (.int .i64 4), .lit (.int .i64 0), .lit (.int .i64 0), .lit (.bool false), .lit (.string ⟨#[120]⟩), .lit (.string ByteArray.empty), .lit (.int .i64 0), .sl 5 [], .sl 1 [], .sl 11 [], .sl 10 []]], .sl 10 []]] h8) (fun a10 h11 => (boolOf a10).bind fun b12 => cond b12 (onOut (F 40 [.agg [.lit (.int .i64 12), .lit (.int .i64 0), .lit (.int .i64 0), .lit (.bool false), .lit (.string ByteArray.empty), .lit (.string ⟨#[102]⟩), .lit (.int .i64 3), .sl 5 [[(l5.getD 0 .dead), (l5.getD 1 .dead), (l5.getD 2 .dead), (l5.getD 3 .dead), (l5.getD 4 .dead)], [(l6.getD 0 .dead), (l6.getD 1 .dead), (l6.getD 2 .dead), (l6.getD 3 .dead), (l6.getD 4 .dead)]], .sl 1 [], .sl 11 [[.lit (.int .i64 4), .lit (.int .i64 0), .lit (.int .i64 0), .lit (.bool false), .lit (.string ⟨#[120]⟩), .lit (.string ByteArray.empty), .lit (.int .i64 0), .sl 5 [], .sl 1 [], .sl 11 [], .sl 10 []]], .sl 10 []]] h11) (fun a13 h14 => (binAV E .eql 3 a13 (.lit (.int .i64 2))).bind fun r15 => (boolOf r15).bind fun b16 => cond b16 (onOut (F 43 [.agg [.lit (.int .i64 12), .lit (.int .i64 0), .lit (.int .i64 0), .lit (.bool false), .lit (.string ByteArray.empty), .lit (.string ⟨#[102]⟩), .lit (.int .i64 3), .sl 5 [[(l5.getD 0 .dead), (l5.getD 1 .dead), (l5.getD 2 .dead), (l5.getD 3 .dead), (l5.getD 4 .dead)], [(l6.getD 0 .dead), (l6.getD 1 .dead), (l6.getD 2 .dead), (l6.getD 3 .dead), (l6.getD 4 .dead)]], .sl 1 [], .sl 11 [[.lit (.int .i64 4), .lit (.int .i64 0), .lit (.int .i64 0), .lit (.bool false), .lit (.string ⟨#[120]⟩), .lit (.string ByteArray.empty), .lit (.int .i64 0), .sl 5 [], .sl 1 [], .sl 11 [], .sl 10 []]], .sl 10 []]] h14) (fun a17 h18 => (lenA E 61 a17).bind fun n19 => (binAV E .eql 3 (.lit (.int .i64 n19)) (.lit (.int .i64 1))).bind fun r20 => (boolOf r20).bind fun b21 => cond b21 (onOut (F 46 [.agg [.lit (.int .i64 12), .lit (.int .i64 0), .lit (.int .i64 0), .lit (.bool false), .lit (.string ByteArray.empty), .lit (.string ⟨#[102]⟩), .lit (.int .i64 3), .sl 5 [[(l5.getD 0 .dead), (l5.getD 1 .dead), (l5.getD 2 .dead), (l5.getD 3 .dead), (l5.getD 4 .dead)], [(l6.getD 0 .dead), (l6.getD 1 .dead), (l6.getD 2 .dead), (l6.getD 3 .dead), (l6.getD 4 .dead)]], .sl 1 [], .sl 11 [[.lit (.int .i64 4), .lit (.int .i64 0), .lit (.int .i64 0), .lit (.bool false), .lit (.string ⟨#[120]⟩), .lit (.string ByteArray.empty), .lit (.int .i64 0), .sl 5 [], .sl 1 [], .sl 11 [], .sl 10 []]], .sl 10 []]] h18) (fun a22 h23 => (aggOf a22).bind fun l24 => (partA false 1 0 l24).bind fun v25 => (binAV E .eql 3 v25 (.lit (.int .i64 4))).bind fun r26 => (boolOf r26).bind fun b27 => cond b27 ((lenA E 54 (l9.getD 9 .dead)).bind fun n28 => (binAV E .eql 3 (.lit (.int .i64 n28)) (.lit (.int .i64 1))).bind fun r29 => (boolOf r29).bind fun b30 => cond b30 ((indexA 11 (l9.getD 9 .dead) (.lit (.int .i64 0))).bind fun e31 => cond (Nat.ble 0 e31.length) ((partA false 1 0 (e31.drop 0)).bind fun v32 => (binAV E .eql 3 v32 (.lit (.int .i64 14))).bind fun r33 => (boolOf r33).bind fun b34 => cond b34 (onOut (F 49 [.agg [.lit (.int .i64 12), .lit (.int .i64 0), .lit (.int .i64 0), .lit (.bool false), .lit (.string ByteArray.empty), .lit (.string ⟨#[102]⟩), .lit (.int .i64 3), .sl 5 [[(l5.getD 0 .dead), (l5.getD 1 .dead), (l5.getD 2 .dead), (l5.getD 3 .dead), (l5.getD 4 .dead)], [(l6.getD 0 .dead), (l6.getD 1 .dead), (l6.getD 2 .dead), (l6.getD 3 .dead), (l6.getD 4 .dead)]], .sl 1 [], .sl 11 [[.lit (.int .i64 4), .lit (.int .i64 0), .lit (.int .i64 0), .lit (.bool false), .lit (.string ⟨#[120]⟩), .lit (.string ByteArray.empty), .lit (.int .i64 0), .sl 5 [], .sl 1 [], .sl 11 [], .sl 10 []]], .sl 10 []], .agg [.lit (.int .i64 12), .lit (.int .i64 0), .lit (.int .i64 0), .lit (.bool false), .lit (.string ByteArray.empty), .lit (.string ⟨#[102]⟩), .lit (.int .i64 3), .sl 5 [[(l5.getD 0 .dead), (l5.getD 1 .dead), (l5.getD 2 .dead), (l5.getD 3 .dead), (l5.getD 4 .dead)], [(l6.getD 0 .dead), (l6.getD 1 .dead), (l6.getD 2 .dead), (l6.getD 3 .dead), (l6.getD 4 .dead)]], .sl 1 [], .sl 11 [[.lit (.int .i64 4), .lit (.int .i64 0), .lit (.int .i64 0), .lit (.bool false), .lit (.string ⟨#[120]⟩), .lit (.string ByteArray.empty), .lit (.int .i64 0), .sl 5 [], .sl 1 [], .sl 11 [], .sl 10 []]], .sl 10 []]] h23) (fun a35 h36 => (boolOf a35).bind fun b37 => cond b37 (onOut (F 49 [.agg [.lit (.int .i64 12), .lit (.int .i64 0), .lit (.int .i64 0), .lit (.bool false), .lit (.string ByteArray.empty), .lit (.string ⟨#[102]⟩), .lit (.int .i64 3), .sl 5 [[(l5.getD 0 .dead), (l5.getD 1 .dead), (l5.getD 2 .dead), (l5.getD 3 .dead), (l5.getD 4 .dead)], [(l6.getD 0 .dead), (l6.getD 1 .dead), (l6.getD 2 .dead), (l6.getD 3 .dead), (l6.getD 4 .dead)]], .sl 1 [], .sl 11 [[.lit (.int .i64 4), .lit (.int .i64 0), .lit (.int .i64 0), .lit (.bool false), .lit (.string ⟨#[120]⟩), .lit (.string ByteArray.empty), .lit (.int .i64 0), .sl 5 [], .sl 1 [], .sl 11 [], .sl 10 []]], .sl 10 []], .agg [.lit (.int .i64 4), .lit (.int .i64 0), .lit (.int .i64 0), .lit (.bool false), .lit (.string ⟨#[120]⟩), .lit (.string ByteArray.empty), .lit (.int .i64 0), .sl 5 [], .sl 1 [], .sl 11 [], .sl 10 []]] h36) (fun a38 h39 => (unAV .not a38).bind fun r40 => some (.ret r40, h39)) (fun _ _ _ => none) (fun _ _ => none)) (some (.ret (.lit (.bool false)), h36))) (fun _ _ _ => none) (fun _ _ => none)) (some (.ret (.lit (.bool false)), h23))) none) (some (.ret (.lit (.bool false)), h23))) (some (.ret (.lit (.bool false)), h23))) (fun _ _ _ => none) (fun _ _ => none)) (some (.ret (.lit (.bool false)), h18))) (fun _ _ _ => none) (fun _ _ => none)) (some (.ret (.lit (.bool false)), h14))) (fun _ _ _ => none) (fun _ _ => none)) (some (.ret (.lit (.bool false)), h11))) (fun _ _ _ => none) (fun _ _ => none)) none) (fun _ _ _ => none) (fun _ _ => none)) none) none) (fun _ _ _ => none) (fun _ _ => none)) (fun _ _ _ => none) (fun _ _ => none) := by kernel_rfl
-- 41 limbeck/limbeckref26.Nodes
noncomputable def Lp41_0 (m : Nat) (h : Heap) (x2 : AV) (x3 : AV) (x4 : AV) (x5 : AV) (x6 : AV) (x7 : AV) (x8 : AV) (x9 : AV) (x10 : AV) (x11 : AV) (x12 : AV) (x13 : AV) (x14 : AV) : R := loopAt E 41 Try.f41 F n h0 [.r, .r, .l, .r, .b] m { s := lkS [(1, .loc [.v x2, .v x3, .v x4, .v x5, .v x6, .v x7, .v x8, .v x9, .v x10, .v x11, .v x12]), (3, .c (.v x13)), (4, .c (.v x14))], h := h }
theorem Lp41_0_zero (h : Heap) (x2 : AV) (x3 : AV) (x4 : AV) (x5 : AV) (x6 : AV) (x7 : AV) (x8 : AV) (x9 : AV) (x10 : AV) (x11 : AV) (x12 : AV) (x13 : AV) (x14 : AV) : Lp41_0 F n h0 0 h x2 x3 x4 x5 x6 x7 x8 x9 x10 x11 x12 x13 x14 = none := by kernel_rfl
theorem Lp41_0_succ (m : Nat) (h : Heap) (x2 : AV) (x3 : AV) (x4 : AV) (x5 : AV) (x6 : AV) (x7 : AV) (x8 : AV) (x9 : AV) (x10 : AV) (x11 : AV) (x12 : AV) (x13 : AV) (x14 : AV) : Lp41_0 F n h0 (m + 1) h x2 x3 x4 x5 x6 x7 x8 x9 x10 x11 x12 x13 x14 = (lenA E 54 x11).bind fun n15 => (binAV E .lss 3 x14 (.lit (.int .i64 n15))).bind fun r16 => (boolOf r16).bind fun b17 => cond b17 ((indexA 11 x11 x14).bind fun e18 => (partA true 11 0 e18).bind fun v19 => onOut (F 41 [v19] h) (fun a20 h21 => (binAV E .add 3 x13 a20).bind fun r22 => (binAV E .add 3 x14 (.lit (.int .i64 1))).bind fun r23 => Lp41_0 F n h0 m h21 x2 x3 x4 x5 x6 x7 x8 x9 x10 x11 x12 r22 r23) (fun _ _ _ => none) (fun _ _ => none)) (some (.ret x13, h)) := by kernel_rfl
theorem nf41 (a0_ : AV) : runF E 41 Try.f41 F n [a0_] h0 = (aggOf a0_).bind fun l1 => cond (Nat.beq l1.length 11) (Lp41_0 F n h0 n h0 (l1.getD 0 .dead) (l1.getD 1 .dead) (l1.getD 2 .dead) (l1.getD 3 .dead) (l1.getD 4 .dead) (l1.getD 5 .dead) (l1.getD 6 .dead) (l1.getD 7 .dead) (l1.getD 8 .dead) (l1.getD 9 .dead) (l1.getD 10 .dead) (.lit (.int .i64 1)) (.lit (.int .i64 0))) none := by kernel_rfl
-- 42 limbeck/limbecklaw26.sameLabels
noncomputable def Lp42_0 (m : Nat) (h : Heap) (x5 : AV) (x6 : AV) (x7 : AV) : R := loopAt E 42 Try.f42 F n h0 [.r, .r, .l, .r, .b] m { s := lkS [(0, .c (.v x5)), (1, .c (.v x6)), (5, .c (.v x7))], h := h }
theorem Lp42_0_zero (h : Heap) (x5 : AV) (x6 : AV) (x7 : AV) : Lp42_0 F n h0 0 h x5 x6 x7 = none := by kernel_rfl
theorem Lp42_0_succ (m : Nat) (h : Heap) (x5 : AV) (x6 : AV) (x7 : AV) : Lp42_0 F n h0 (m + 1) h x5 x6 x7 = (lenA E 61 x5).bind fun n8 => (binAV E .lss 3 x7 (.lit (.int .i64 n8))).bind fun r9 => (boolOf r9).bind fun b10 => cond b10 ((lenA E 61 x6).bind fun n11 => (binAV E .lss 3 x7 (.lit (.int .i64 n11))).bind fun r12 => (boolOf r12).bind fun b13 => cond b13 ((indexA 2 x5 x7).bind fun e14 => (partA true 2 0 e14).bind fun v15 => (indexA 2 x6 x7).bind fun e16 => (partA true 2 0 e16).bind fun v17 => (binAV E .neq 25 v15 v17).bind fun r18 => (boolOf r18).bind fun b19 => cond b19 (some (.ret (.lit (.bool false)), h)) ((binAV E .add 3 x7 (.lit (.int .i64 1))).bind fun r20 => Lp42_0 F n h0 m h x5 x6 r20)) (some (.ret (.lit (.bool true)), h))) (some (.ret (.lit (.bool true)), h)) := by kernel_rfl
theorem nf42 (a0_ : AV) (a1_ : AV) : runF E 42 Try.f42 F n [a0_, a1_] h0 = (lenA E 61 a0_).bind fun n1 => (lenA E 61 a1_).bind fun n2 => (binAV E .neq 3 (.lit (.int .i64 n1)) (.lit (.int .i64 n2))).bind fun r3 => (boolOf r3).bind fun b4 => cond b4 (some (.ret (.lit (.bool false)), h0)) (Lp42_0 F n h0 n h0 a0_ a1_ (.lit (.int .i64 0))) := by kernel_rfl
-- 44 limbeck/limbeckref26.Labels
noncomputable def Lp44_0 (m : Nat) (h : Heap) (x4 : AV) (x5 : AV) (x6 : AV) (x7 : AV) (x8 : AV) (x9 : AV) (x10 : AV) (x11 : AV) (x12 : AV) (x13 : AV) (x14 : AV) (z15 : List (List AV)) (x16 : AV) : R := loopAt E 44 Try.f44 F n h0 [.r, .r, .r, .l, .r, .b] m { s := lkS [(1, .loc [.v x4, .v x5, .v x6, .v x7, .v x8, .v x9, .v x10, .v x11, .v x12, .v x13, .v x14]), (3, .c (.own 2 z15)), (4, .c (.v x16))], h := h }
theorem Lp44_0_zero (h : Heap) (x4 : AV) (x5 : AV) (x6 : AV) (x7 : AV) (x8 : AV) (x9 : AV) (x10 : AV) (x11 : AV) (x12 : AV) (x13 : AV) (x14 : AV) (z15 : List (List AV)) (x16 : AV) : Lp44_0 F n h0 0 h x4 x5 x6 x7 x8 x9 x10 x11 x12 x13 x14 z15 x16 = none := by kernel_rfl
theorem Lp44_0_succ (m : Nat) (h : Heap) (x4 : AV) (x5 : AV) (x6 : AV) (x7 : AV) (x8 : AV) (x9 : AV) (x10 : AV) (x11 : AV) (x12 : AV) (x13 : AV) (x14 : AV) (z15 : List (List AV)) (x16 : AV) : Lp44_0 F n h0 (m + 1) h x4 x5 x6 x7 x8 x9 x10 x11 x12 x13 x14 z15 x16 = (lenA E 54 x13).bind fun n17 => (binAV E .lss 3 x16 (.lit (.int .i64 n17))).bind fun r18 => (boolOf r18).bind fun b19 => cond b19 ((indexA 11 x13 x16).bind fun e20 => (partA true 11 0 e20).bind fun v21 => onOut (F 44 [v21] h) (fun a22 h23 => (slOf 2 a22).bind fun ys24 => cond (Nat.ble (z15.length + ys24.length) maxApp) ((binAV E .add 3 x16 (.lit (.int .i64 1))).bind fun r25 => Lp44_0 F n h0 m h23 x4 x5 x6 x7 x8 x9 x10 x11 x12 x13 x14 (z15 ++ ys24) r25) none) (fun _ _ _ => none) (fun _ _ => none)) (some (.ret (.sl 2 z15), h)) := by kernel_rfl
theorem nf44 (a0_ : AV) : runF E 44 Try.f44 F n [a0_] h0 = (aggOf a0_).bind fun l1 => cond (Nat.beq l1.length 11) ((binAV E .eql 3 (l1.getD 0 .dead) (.lit (.int .i64 12))).bind fun r2 => (boolOf r2).bind fun b3 => cond b3 (cond (Nat.ble ([[(l1.getD 5 .dead), (l1.getD 6 .dead)]] : List (List AV)).length maxApp) (Lp44_0 F n h0 n h0 (l1.getD 0 .dead) (l1.getD 1 .dead) (l1.getD 2 .dead) (l1.getD 3 .dead) (l1.getD 4 .dead) (l1.getD 5 .dead) (l1.getD 6 .dead) (l1.getD 7 .dead) (l1.getD 8 .dead) (l1.getD 9 .dead) (l1.getD 10 .dead) [[(l1.getD 5 .dead), (l1.getD 6 .dead)]] (.lit (.int .i64 0))) none) ((binAV E .eql 3 (l1.getD 0 .dead) (.lit (.int .i64 13))).bind fun r26 => (boolOf r26).bind fun b27 => cond b27 (cond (Nat.ble ([[(l1.getD 5 .dead), (l1.getD 6 .dead)]] : List (List AV)).length maxApp) (Lp44_0 F n h0 n h0 (l1.getD 0 .dead) (l1.getD 1 .dead) (l1.getD 2 .dead) (l1.getD 3 .dead) (l1.getD 4 .dead) (l1.getD 5 .dead) (l1.getD 6 .dead) (l1.getD 7 .dead) (l1.getD 8 .dead) (l1.getD 9 .dead) (l1.getD 10 .dead) [[(l1.getD 5 .dead), (l1.getD 6 .dead)]] (.lit (.int .i64 0))) none) (Lp44_0 F n h0 n h0 (l1.getD 0 .dead) (l1.getD 1 .dead) (l1.getD 2 .dead) (l1.getD 3 .dead) (l1.getD 4 .dead) (l1.getD 5 .dead) (l1.getD 6 .dead) (l1.getD 7 .dead) (l1.getD 8 .dead) (l1.getD 9 .dead) (l1.getD 10 .dead) [] (.lit (.int .i64 0))))) none := by kernel_rfl
-- 45 limbeck/limbeckref26.Same
noncomputable def Lp45_0 (m : Nat) (h : Heap) (x31 : AV) (x32 : AV) (x33 : AV) (x34 : AV) (x35 : AV) (x36 : AV) (x37 : AV) (x38 : AV) (x39 : AV) (x40 : AV) (x41 : AV) (x42 : AV) (x43 : AV) (x44 : AV) (x45 : AV) (x46 : AV) (x47 : AV) (x48 : AV) (x49 : AV) (x50 : AV) (x51 : AV) (x52 : AV) (x53 : AV) : R := loopAt E 45 Try.f45 F n h0 [.r, .r, .r, .l, .r, .b] m { s := lkS [(2, .loc [.v x31, .v x32, .v x33, .v x34, .v x35, .v x36, .v x37, .v x38, .v x39, .v x40, .v x41]), (3, .loc [.v x42, .v x43, .v x44, .v x45, .v x46, .v x47, .v x48, .v x49, .v x50, .v x51, .v x52]), (5, .c (.v x53))], h := h }
theorem Lp45_0_zero (h : Heap) (x31 : AV) (x32 : AV) (x33 : AV) (x34 : AV) (x35 : AV) (x36 : AV) (x37 : AV) (x38 : AV) (x39 : AV) (x40 : AV) (x41 : AV) (x42 : AV) (x43 : AV) (x44 : AV) (x45 : AV) (x46 : AV) (x47 : AV) (x48 : AV) (x49 : AV) (x50 : AV) (x51 : AV) (x52 : AV) (x53 : AV) : Lp45_0 F n h0 0 h x31 x32 x33 x34 x35 x36 x37 x38 x39 x40 x41 x42 x43 x44 x45 x46 x47 x48 x49 x50 x51 x52 x53 = none := by kernel_rfl
theorem Lp45_0_succ (m : Nat) (h : Heap) (x31 : AV) (x32 : AV) (x33 : AV) (x34 : AV) (x35 : AV) (x36 : AV) (x37 : AV) (x38 : AV) (x39 : AV) (x40 : AV) (x41 : AV) (x42 : AV) (x43 : AV) (x44 : AV) (x45 : AV) (x46 : AV) (x47 : AV) (x48 : AV) (x49 : AV) (x50 : AV) (x51 : AV) (x52 : AV) (x53 : AV) : Lp45_0 F n h0 (m + 1) h x31 x32 x33 x34 x35 x36 x37 x38 x39 x40 x41 x42 x43 x44 x45 x46 x47 x48 x49 x50 x51 x52 x53 = (lenA E 54 x40).bind fun n54 => (binAV E .lss 3 x53 (.lit (.int .i64 n54))).bind fun r55 => (boolOf r55).bind fun b56 => cond b56 ((lenA E 54 x51).bind fun n57 => (binAV E .lss 3 x53 (.lit (.int .i64 n57))).bind fun r58 => (boolOf r58).bind fun b59 => cond b59 ((indexA 11 x40 x53).bind fun e60 => (partA true 11 0 e60).bind fun v61 => (indexA 11 x51 x53).bind fun e62 => (partA true 11 0 e62).bind fun v63 => onOut (F 45 [v61, v63] h) (fun a64 h65 => (unAV .not a64).bind fun r66 => (boolOf r66).bind fun b67 => cond b67 (some (.ret (.lit (.bool false)), h65)) ((binAV E .add 3 x53 (.lit (.int .i64 1))).bind fun r68 => Lp45_0 F n h0 m h65 x31 x32 x33 x34 x35 x36 x37 x38 x39 x40 x41 x42 x43 x44 x45 x46 x47 x48 x49 x50 x51 x52 r68)) (fun _ _ _ => none) (fun _ _ => none)) (some (.ret (.lit (.bool true)), h))) (some (.ret (.lit (.bool true)), h)) := by kernel_rfl
theorem nf45 (a0_ : AV) (a1_ : AV) : runF E 45 Try.f45 F n [a0_, a1_] h0 = (aggOf a0_).bind fun l1 => cond (Nat.beq l1.length 11) ((aggOf a1_).bind fun l2 => cond (Nat.beq l2.length 11) ((binAV E .neq 3 (l1.getD 0 .dead) (l2.getD 0 .dead)).bind fun r3 => (boolOf r3).bind fun b4 => cond b4 (some (.ret (.lit (.bool false)), h0)) ((binAV E .neq 3 (l1.getD 1 .dead) (l2.getD 1 .dead)).bind fun r5 => (boolOf r5).bind fun b6 => cond b6 (some (.ret (.lit (.bool false)), h0)) ((binAV E .neq 3 (l1.getD 2 .dead) (l2.getD 2 .dead)).bind fun r7 => (boolOf r7).bind fun b8 => cond b8 (some (.ret (.lit (.bool false)), h0)) ((binAV E .neq 4 (l1.getD 3 .dead) (l2.getD 3 .dead)).bind fun r9 => (boolOf r9).bind fun b10 => cond b10 (some (.ret (.lit (.bool false)), h0)) ((binAV E .neq 9 (l1.getD 4 .dead) (l2.getD 4 .dead)).bind fun r11 => (boolOf r11).bind fun b12 => cond b12 (some (.ret (.lit (.bool false)), h0)) ((binAV E .neq 25 (.agg [(l1.getD 5 .dead), (l1.getD 6 .dead)]) (.agg [(l2.getD 5 .dead), (l2.getD 6 .dead)])).bind fun r13 => (boolOf r13).bind fun b14 => cond b14 (some (.ret (.lit (.bool false)), h0)) (onOut (F 96 [(l1.getD 7 .dead), (l2.getD 7 .dead)] h0) (fun a15 h16 => (unAV .not a15).bind fun r17 => (boolOf r17).bind fun b18 => cond b18 (some (.ret (.lit (.bool false)), h16)) (onOut (F 79 [(l1.getD 8 .dead), (l2.getD 8 .dead)] h16) (fun a19 h20 => (unAV .not a19).bind fun r21 => (boolOf r21).bind fun b22 => cond b22 (some (.ret (.lit (.bool false)), h20)) (onOut (F 97 [(l1.getD 10 .dead), (l2.getD 10 .dead)] h20) (fun a23 h24 => (unAV .not a23).bind fun r25 => (boolOf r25).bind fun b26 => cond b26 (some (.ret (.lit (.bool false)), h24)) ((lenA E 54 (l1.getD 9 .dead)).bind fun n27 => (lenA E 54 (l2.getD 9 .dead)).bind fun n28 => (binAV E .neq 3 (.lit (.int .i64 n27)) (.lit (.int .i64 n28))).bind fun r29 => (boolOf r29).bind fun b30 => cond b30 (some (.ret (.lit (.bool false)), h24)) (Lp45_0 F n h0 n h24 (l1.getD 0 .dead) (l1.getD 1 .dead) (l1.getD 2 .dead) (l1.getD 3 .dead) (l1.getD 4 .dead) (l1.getD 5 .dead) (l1.getD 6 .dead) (l1.getD 7 .dead) (l1.getD 8 .dead) (l1.getD 9 .dead) (l1.getD 10 .dead) (l2.getD 0 .dead) (l2.getD 1 .dead) (l2.getD 2 .dead) (l2.getD 3 .dead) (l2.getD 4 .dead) (l2.getD 5 .dead) (l2.getD 6 .dead) (l2.getD 7 .dead) (l2.getD 8 .dead) (l2.getD 9 .dead) (l2.getD 10 .dead) (.lit (.int .i64 0))))) (fun _ _ _ => none) (fun _ _ => none))) (fun _ _ _ => none) (fun _ _ => none))) (fun _ _ _ => none) (fun _ _ => none)))))))) none) none := by kernel_rfl
-- 46 limbeck/core.Bare
theorem nf46 (a0_ : AV) : runF E 46 Try.f46 F n [a0_] h0 = (aggOf a0_).bind fun l1 => cond (Nat.beq l1.length 11) ((binAV E .eql 3 (l1.getD 0 .dead) (.lit (.int .i64 12))).bind fun r2 => (boolOf r2).bind fun b3 => cond b3 ((lenA E 54 (l1.getD 9 .dead)).bind fun n4 => (binAV E .eql 3 (.lit (.int .i64 n4)) (.lit (.int .i64 1))).bind fun r5 => (boolOf r5).bind fun b6 => cond b6 ((indexA 11 (l1.getD 9 .dead) (.lit (.int .i64 0))).bind fun e7 => (partA true 11 0 e7).bind fun v8 => onOut (F 46 [v8] h0) (fun a9 h10 => (aggOf a9).bind fun l11 => cond (Nat.beq l11.length 11) (some (.ret (.agg [(l11.getD 0 .dead), (l11.getD 1 .dead), (l11.getD 2 .dead), (l11.getD 3 .dead), (l11.getD 4 .dead), (l11.getD 5 .dead), (l11.getD 6 .dead), (l11.getD 7 .dead), (l11.getD 8 .dead), (l11.getD 9 .dead), (l11.getD 10 .dead)]), h10)) none) (fun _ _ _ => none) (fun _ _ => none)) (onOut (F 98 [.agg [(l1.getD 0 .dead), (l1.getD 1 .dead), (l1.getD 2 .dead), (l1.getD 3 .dead), (l1.getD 4 .dead), (l1.getD 5 .dead), (l1.getD 6 .dead), (l1.getD 7 .dead), (l1.getD 8 .dead), (l1.getD 9 .dead), (l1.getD 10 .dead)], .fn 99 [] []] h0) (fun a12 h13 => (aggOf a12).bind fun l14 => cond (Nat.beq l14.length 11) (some (.ret (.agg [(l14.getD 0 .dead), (l14.getD 1 .dead), (l14.getD 2 .dead), (l14.getD 3 .dead), (l14.getD 4 .dead), .lit (.string ByteArray.empty), .lit (.int .i64 0), .sl 5 [], (l14.getD 8 .dead), (l14.getD 9 .dead), (l14.getD 10 .dead)]), h13)) none) (fun _ _ _ => none) (fun _ _ => none))) (onOut (F 98 [.agg [(l1.getD 0 .dead), (l1.getD 1 .dead), (l1.getD 2 .dead), (l1.getD 3 .dead), (l1.getD 4 .dead), (l1.getD 5 .dead), (l1.getD 6 .dead), (l1.getD 7 .dead), (l1.getD 8 .dead), (l1.getD 9 .dead), (l1.getD 10 .dead)], .fn 99 [] []] h0) (fun a15 h16 => (aggOf a15).bind fun l17 => cond (Nat.beq l17.length 11) (some (.ret (.agg [(l17.getD 0 .dead), (l17.getD 1 .dead), (l17.getD 2 .dead), (l17.getD 3 .dead), (l17.getD 4 .dead), .lit (.string ByteArray.empty), .lit (.int .i64 0), .sl 5 [], (l17.getD 8 .dead), (l17.getD 9 .dead), (l17.getD 10 .dead)]), h16)) none) (fun _ _ _ => none) (fun _ _ => none))) none := by kernel_rfl
-- 47 limbeck/limbeckref26.Bare
noncomputable def Lp47_0 (m : Nat) (h : Heap) (x12 : AV) (x13 : AV) (x14 : AV) (x15 : AV) (x16 : AV) (x17 : AV) (x18 : AV) (x19 : AV) (x20 : AV) (x21 : AV) (x22 : AV) (x23 : AV) (x24 : AV) (x25 : AV) (x26 : AV) (x27 : AV) (x28 : AV) (x29 : AV) (z30 : List (List AV)) (z31 : List (List AV)) (z32 : List (List AV)) (z33 : List (List AV)) (x34 : AV) (x35 : AV) (x36 : AV) (x37 : AV) (x38 : AV) (x39 : AV) (x40 : AV) (z41 : List (List AV)) (x42 : AV) (z43 : List (List AV)) (x44 : AV) (x45 : AV) : R := loopAt E 47 Try.f47 F n h0 [.r, .r, .r, .r, .r, .r, .l, .r, .b] m { s := lkS [(1, .loc [.v x12, .v x13, .v x14, .v x15, .v x16, .v x17, .v x18, .v x19, .v x20, .v x21, .v x22]), (2, .loc [.v x23, .v x24, .v x25, .v x26, .v x27, .v x28, .v x29, .own 5 z30, .own 1 z31, .own 11 z32, .own 10 z33]), (3, .loc [.v x34, .v x35, .v x36, .v x37, .v x38, .v x39, .v x40, .own 5 z41, .v x42, .own 11 z43, .v x44]), (4, .c (.v x45))], h := h }
theorem Lp47_0_zero (h : Heap) (x12 : AV) (x13 : AV) (x14 : AV) (x15 : AV) (x16 : AV) (x17 : AV) (x18 : AV) (x19 : AV) (x20 : AV) (x21 : AV) (x22 : AV) (x23 : AV) (x24 : AV) (x25 : AV) (x26 : AV) (x27 : AV) (x28 : AV) (x29 : AV) (z30 : List (List AV)) (z31 : List (List AV)) (z32 : List (List AV)) (z33 : List (List AV)) (x34 : AV) (x35 : AV) (x36 : AV) (x37 : AV) (x38 : AV) (x39 : AV) (x40 : AV) (z41 : List (List AV)) (x42 : AV) (z43 : List (List AV)) (x44 : AV) (x45 : AV) : Lp47_0 F n h0 0 h x12 x13 x14 x15 x16 x17 x18 x19 x20 x21 x22 x23 x24 x25 x26 x27 x28 x29 z30 z31 z32 z33 x34 x35 x36 x37 x38 x39 x40 z41 x42 z43 x44 x45 = none := by kernel_rfl
theorem Lp47_0_succ (m : Nat) (h : Heap) (x12 : AV) (x13 : AV) (x14 : AV) (x15 : AV) (x16 : AV) (x17 : AV) (x18 : AV) (x19 : AV) (x20 : AV) (x21 : AV) (x22 : AV) (x23 : AV) (x24 : AV) (x25 : AV) (x26 : AV) (x27 : AV) (x28 : AV) (x29 : AV) (z30 : List (List AV)) (z31 : List (List AV)) (z32 : List (List AV)) (z33 : List (List AV)) (x34 : AV) (x35 : AV) (x36 : AV) (x37 : AV) (x38 : AV) (x39 : AV) (x40 : AV) (z41 : List (List AV)) (x42 : AV) (z43 : List (List AV)) (x44 : AV) (x45 : AV) : Lp47_0 F n h0 (m + 1) h x12 x13 x14 x15 x16 x17 x18 x19 x20 x21 x22 x23 x24 x25 x26 x27 x28 x29 z30 z31 z32 z33 x34 x35 x36 x37 x38 x39 x40 z41 x42 z43 x44 x45 = (lenA E 54 x21).bind fun n46 => (binAV E .lss 3 x45 (.lit (.int .i64 n46))).bind fun r47 => (boolOf r47).bind fun b48 => cond b48 ((indexA 11 x21 x45).bind fun e49 => (partA true 11 0 e49).bind fun v50 => onOut (F 47 [v50] h) (fun a51 h52 => (aggOf a51).bind fun l53 => cond (Nat.beq l53.length 11) (cond (Nat.ble (z43.length + ([[(l53.getD 0 .dead), (l53.getD 1 .dead), (l53.getD 2 .dead), (l53.getD 3 .dead), (l53.getD 4 .dead), (l53.getD 5 .dead), (l53.getD 6 .dead), (l53.getD 7 .dead), (l53.getD 8 .dead), (l53.getD 9 .dead), (l53.getD 10 .dead)]] : List (List AV)).length) maxApp) ((binAV E .add 3 x45 (.lit (.int .i64 1))).bind fun r54 => Lp47_0 F n h0 m h52 x12 x13 x14 x15 x16 x17 x18 x19 x20 x21 x22 x23 x24 x25 x26 x27 x28 x29 z30 z31 z32 z33 x34 x35 x36 x37 x38 x39 x40 z41 x42 (z43 ++ [[(l53.getD 0 .dead), (l53.getD 1 .dead), (l53.getD 2 .dead), (l53.getD 3 .dead), (l53.getD 4 .dead), (l53.getD 5 .dead), (l53.getD 6 .dead), (l53.getD 7 .dead), (l53.getD 8 .dead), (l53.getD 9 .dead), (l53.getD 10 .dead)]]) x44 r54) none) none) (fun _ _ _ => none) (fun _ _ => none)) (some (.ret (.agg [x34, x35, x36, x37, x38, x39, x40, .sl 5 z41, x42, .sl 11 z43, x44]), h)) := by kernel_rfl
theorem nf47 (a0_ : AV) : runF E 47 Try.f47 F n [a0_] h0 = (aggOf a0_).bind fun l1 => cond (Nat.beq l1.length 11) ((binAV E .eql 3 (l1.getD 0 .dead) (.lit (.int .i64 12))).bind fun r2 => (boolOf r2).bind fun b3 => cond b3 ((lenA E 54 (l1.getD 9 .dead)).bind fun n4 => (binAV E .eql 3 (.lit (.int .i64 n4)) (.lit (.int .i64 1))).bind fun r5 => (boolOf r5).bind fun b6 => cond b6 ((indexA 11 (l1.getD 9 .dead) (.lit (.int .i64 0))).bind fun e7 => (partA true 11 0 e7).bind fun v8 => onOut (F 47 [v8] h0) (fun a9 h10 => (aggOf a9).bind fun l11 => cond (Nat.beq l11.length 11) (some (.ret (.agg [(l11.getD 0 .dead), (l11.getD 1 .dead), (l11.getD 2 .dead), (l11.getD 3 .dead), (l11.getD 4 .dead), (l11.getD 5 .dead), (l11.getD 6 .dead), (l11.getD 7 .dead), (l11.getD 8 .dead), (l11.getD 9 .dead), (l11.getD 10 .dead)]), h10)) none) (fun _ _ _ => none) (fun _ _ => none)) (Lp47_0 F n h0 n h0 (l1.getD 0 .dead) (l1.getD 1 .dead) (l1.getD 2 .dead) (l1.getD 3 .dead) (l1.getD 4 .dead) (l1.getD 5 .dead) (l1.getD 6 .dead) (l1.getD 7 .dead) (l1.getD 8 .dead) (l1.getD 9 .dead) (l1.getD 10 .dead) (.lit (.int .i64 0)) (.lit (.int .i64 0)) (.lit (.int .i64 0)) (.lit (.bool false)) (.lit (.string ByteArray.empty)) (.lit (.string ByteArray.empty)) (.lit (.int .i64 0)) [] [] [] [] (l1.getD 0 .dead) (l1.getD 1 .dead) (l1.getD 2 .dead) (l1.getD 3 .dead) (l1.getD 4 .dead) (.lit (.string ByteArray.empty)) (.lit (.int .i64 0)) [] (l1.getD 8 .dead) [] (l1.getD 10 .dead) (.lit (.int .i64 0)))) (Lp47_0 F n h0 n h0 (l1.getD 0 .dead) (l1.getD 1 .dead) (l1.getD 2 .dead) (l1.getD 3 .dead) (l1.getD 4 .dead) (l1.getD 5 .dead) (l1.getD 6 .dead) (l1.getD 7 .dead) (l1.getD 8 .dead) (l1.getD 9 .dead) (l1.getD 10 .dead) (.lit (.int .i64 0)) (.lit (.int .i64 0)) (.lit (.int .i64 0)) (.lit (.bool false)) (.lit (.string ByteArray.empty)) (.lit (.string ByteArray.empty)) (.lit (.int .i64 0)) [] [] [] [] (l1.getD 0 .dead) (l1.getD 1 .dead) (l1.getD 2 .dead) (l1.getD 3 .dead) (l1.getD 4 .dead) (.lit (.string ByteArray.empty)) (.lit (.int .i64 0)) [] (l1.getD 8 .dead) [] (l1.getD 10 .dead) (.lit (.int .i64 0)))) none := by kernel_rfl
-- 48 limbeck/limbecklaw26.MuchVal
noncomputable def Lp48_1 (m : Nat) (h : Heap) (x33 : AV) (x34 : AV) (x35 : AV) (x36 : AV) (x37 : AV) (x38 : AV) (x39 : AV) (x40 : AV) (x41 : AV) (x42 : AV) (x43 : AV) (x44 : AV) : R := loopAt E 48 Try.f48 F n h0 [.r, .r, .r, .l, .r, .b] m { s := lkS [(1, .loc [.v x33, .v x34, .v x35, .v x36, .v x37, .v x38, .v x39, .v x40, .v x41, .v x42]), (3, .c (.v x43)), (5, .c (.v x44))], h := h }
theorem Lp48_1_zero (h : Heap) (x33 : AV) (x34 : AV) (x35 : AV) (x36 : AV) (x37 : AV) (x38 : AV) (x39 : AV) (x40 : AV) (x41 : AV) (x42 : AV) (x43 : AV) (x44 : AV) : Lp48_1 F n h0 0 h x33 x34 x35 x36 x37 x38 x39 x40 x41 x42 x43 x44 = none := by kernel_rfl
theorem Lp48_1_succ (m : Nat) (h : Heap) (x33 : AV) (x34 : AV) (x35 : AV) (x36 : AV) (x37 : AV) (x38 : AV) (x39 : AV) (x40 : AV) (x41 : AV) (x42 : AV) (x43 : AV) (x44 : AV) : Lp48_1 F n h0 (m + 1) h x33 x34 x35 x36 x37 x38 x39 x40 x41 x42 x43 x44 = (lenA E 55 x42).bind fun n45 => (binAV E .lss 3 x44 (.lit (.int .i64 n45))).bind fun r46 => (boolOf r46).bind fun b47 => cond b47 ((binAV E .lss 3 x43 (.lit (.int .i64 3000))).bind fun r48 => (boolOf r48).bind fun b49 => cond b49 ((indexA 10 x42 x44).bind fun e50 => (partA true 10 0 e50).bind fun v51 => onOut (F 48 [v51] h) (fun a52 h53 => (binAV E .add 3 x43 a52).bind fun r54 => (binAV E .add 3 x44 (.lit (.int .i64 1))).bind fun r55 => Lp48_1 F n h0 m h53 x33 x34 x35 x36 x37 x38 x39 x40 x41 x42 r54 r55) (fun _ _ _ => none) (fun _ _ => none)) (some (.ret x43, h))) (some (.ret x43, h)) := by kernel_rfl
noncomputable def Lp48_0 (m : Nat) (h : Heap) (x10 : AV) (x11 : AV) (x12 : AV) (x13 : AV) (x14 : AV) (x15 : AV) (x16 : AV) (x17 : AV) (x18 : AV) (x19 : AV) (x20 : AV) (x21 : AV) : R := loopAt E 48 Try.f48 F n h0 [.r, .r, .l, .r, .b] m { s := lkS [(1, .loc [.v x10, .v x11, .v x12, .v x13, .v x14, .v x15, .v x16, .v x17, .v x18, .v x19]), (3, .c (.v x20)), (4, .c (.v x21))], h := h }
theorem Lp48_0_zero (h : Heap) (x10 : AV) (x11 : AV) (x12 : AV) (x13 : AV) (x14 : AV) (x15 : AV) (x16 : AV) (x17 : AV) (x18 : AV) (x19 : AV) (x20 : AV) (x21 : AV) : Lp48_0 F n h0 0 h x10 x11 x12 x13 x14 x15 x16 x17 x18 x19 x20 x21 = none := by kernel_rfl
theorem Lp48_0_succ (m : Nat) (h : Heap) (x10 : AV) (x11 : AV) (x12 : AV) (x13 : AV) (x14 : AV) (x15 : AV) (x16 : AV) (x17 : AV) (x18 : AV) (x19 : AV) (x20 : AV) (x21 : AV) : Lp48_0 F n h0 (m + 1) h x10 x11 x12 x13 x14 x15 x16 x17 x18 x19 x20 x21 = (lenA E 29 x17).bind fun n22 => (binAV E .lss 3 x21 (.lit (.int .i64 n22))).bind fun r23 => (boolOf r23).bind fun b24 => cond b24 ((binAV E .lss 3 x20 (.lit (.int .i64 3000))).bind fun r25 => (boolOf r25).bind fun b26 => cond b26 ((indexA 5 x17 x21).bind fun e27 => (partA true 5 0 e27).bind fun v28 => onOut (F 24 [v28] h) (fun a29 h30 => (binAV E .add 3 x20 a29).bind fun r31 => (binAV E .add 3 x21 (.lit (.int .i64 1))).bind fun r32 => Lp48_0 F n h0 m h30 x10 x11 x12 x13 x14 x15 x16 x17 x18 x19 r31 r32) (fun _ _ _ => none) (fun _ _ => none)) (Lp48_1 F n h0 n h x10 x11 x12 x13 x14 x15 x16 x17 x18 x19 x20 (.lit (.int .i64 0)))) (Lp48_1 F n h0 n h x10 x11 x12 x13 x14 x15 x16 x17 x18 x19 x20 (.lit (.int .i64 0))) := by kernel_rfl
theorem nf48 (a0_ : AV) : runF E 48 Try.f48 F n [a0_] h0 = (aggOf a0_).bind fun l1 => cond (Nat.beq l1.length 10) ((lenA E 9 (l1.getD 4 .dead)).bind fun n2 => (binAV E .quo 3 (.lit (.int .i64 n2)) (.lit (.int .i64 8))).bind fun r3 => (binAV E .add 3 (.lit (.int .i64 1)) r3).bind fun r4 => (lenA E 31 (l1.getD 8 .dead)).bind fun n5 => (binAV E .add 3 r4 (.lit (.int .i64 n5))).bind fun r6 => (lenA E 9 (l1.getD 5 .dead)).bind fun n7 => (binAV E .quo 3 (.lit (.int .i64 n7)) (.lit (.int .i64 8))).bind fun r8 => (binAV E .add 3 r6 r8).bind fun r9 => Lp48_0 F n h0 n h0 (l1.getD 0 .dead) (l1.getD 1 .dead) (l1.getD 2 .dead) (l1.getD 3 .dead) (l1.getD 4 .dead) (l1.getD 5 .dead) (l1.getD 6 .dead) (l1.getD 7 .dead) (l1.getD 8 .dead) (l1.getD 9 .dead) r9 (.lit (.int .i64 0))) none := by kernel_rfl
-- 49 limbeck/core.Same
theorem nf49 (a0_ : AV) (a1_ : AV) : runF E 49 Try.f49 F n [a0_, a1_] h0 = (aggOf a0_).bind fun l1 => cond (Nat.beq l1.length 11) ((aggOf a1_).bind fun l2 => cond (Nat.beq l2.length 11) ((binAV E .neq 3 (l1.getD 0 .dead) (l2.getD 0 .dead)).bind fun r3 => (boolOf r3).bind fun b4 => cond b4 (some (.ret (.lit (.bool false)), h0)) ((binAV E .neq 3 (l1.getD 1 .dead) (l2.getD 1 .dead)).bind fun r5 => (boolOf r5).bind fun b6 => cond b6 (some (.ret (.lit (.bool false)), h0)) ((binAV E .neq 3 (l1.getD 2 .dead) (l2.getD 2 .dead)).bind fun r7 => (boolOf r7).bind fun b8 => cond b8 (some (.ret (.lit (.bool false)), h0)) ((binAV E .neq 4 (l1.getD 3 .dead) (l2.getD 3 .dead)).bind fun r9 => (boolOf r9).bind fun b10 => cond b10 (some (.ret (.lit (.bool false)), h0)) ((binAV E .neq 9 (l1.getD 4 .dead) (l2.getD 4 .dead)).bind fun r11 => (boolOf r11).bind fun b12 => cond b12 (some (.ret (.lit (.bool false)), h0)) ((binAV E .neq 25 (.agg [(l1.getD 5 .dead), (l1.getD 6 .dead)]) (.agg [(l2.getD 5 .dead), (l2.getD 6 .dead)])).bind fun r13 => (boolOf r13).bind fun b14 => cond b14 (some (.ret (.lit (.bool false)), h0)) (onOut (F 100 [(l1.getD 7 .dead), (l2.getD 7 .dead), .fn 101 [] []] h0) (fun a15 h16 => (boolOf a15).bind fun b17 => cond b17 (onOut (F 102 [(l1.getD 8 .dead), (l2.getD 8 .dead)] h16) (fun a18 h19 => (boolOf a18).bind fun b20 => cond b20 (onOut (F 103 [(l1.getD 10 .dead), (l2.getD 10 .dead), .fn 50 [] []] h19) (fun a21 h22 => (boolOf a21).bind fun b23 => cond b23 (onOut (F 104 [(l1.getD 9 .dead), (l2.getD 9 .dead), .fn 49 [] []] h22) (fun a24 h25 => some (.ret a24, h25)) (fun _ _ _ => none) (fun _ _ => none)) (some (.ret (.lit (.bool false)), h22))) (fun _ _ _ => none) (fun _ _ => none)) (some (.ret (.lit (.bool false)), h19))) (fun _ _ _ => none) (fun _ _ => none)) (some (.ret (.lit (.bool false)), h16))) (fun _ _ _ => none) (fun _ _ => none)))))))) none) none := by kernel_rfl
-- 50 limbeck/core.SameVal
theorem nf50 (a0_ : AV) (a1_ : AV) : runF E 50 Try.f50 F n [a0_, a1_] h0 = (aggOf a0_).bind fun l1 => cond (Nat.beq l1.length 10) ((aggOf a1_).bind fun l2 => cond (Nat.beq l2.length 10) ((binAV E .neq 3 (l1.getD 0 .dead) (l2.getD 0 .dead)).bind fun r3 => (boolOf r3).bind fun b4 => cond b4 (some (.ret (.lit (.bool false)), h0)) ((binAV E .neq 3 (l1.getD 1 .dead) (l2.getD 1 .dead)).bind fun r5 => (boolOf r5).bind fun b6 => cond b6 (some (.ret (.lit (.bool false)), h0)) ((binAV E .neq 3 (l1.getD 2 .dead) (l2.getD 2 .dead)).bind fun r7 => (boolOf r7).bind fun b8 => cond b8 (some (.ret (.lit (.bool false)), h0)) ((binAV E .neq 4 (l1.getD 3 .dead) (l2.getD 3 .dead)).bind fun r9 => (boolOf r9).bind fun b10 => cond b10 (some (.ret (.lit (.bool false)), h0)) ((binAV E .neq 9 (l1.getD 4 .dead) (l2.getD 4 .dead)).bind fun r11 => (boolOf r11).bind fun b12 => cond b12 (some (.ret (.lit (.bool false)), h0)) ((binAV E .neq 25 (.agg [(l1.getD 5 .dead), (l1.getD 6 .dead)]) (.agg [(l2.getD 5 .dead), (l2.getD 6 .dead)])).bind fun r13 => (boolOf r13).bind fun b14 => cond b14 (some (.ret (.lit (.bool false)), h0)) (onOut (F 100 [(l1.getD 7 .dead), (l2.getD 7 .dead), .fn 101 [] []] h0) (fun a15 h16 => (boolOf a15).bind fun b17 => cond b17 (onOut (F 102 [(l1.getD 8 .dead), (l2.getD 8 .dead)] h16) (fun a18 h19 => (boolOf a18).bind fun b20 => cond b20 (onOut (F 103 [(l1.getD 9 .dead), (l2.getD 9 .dead), .fn 50 [] []] h19) (fun a21 h22 => some (.ret a21, h22)) (fun _ _ _ => none) (fun _ _ => none)) (some (.ret (.lit (.bool false)), h19))) (fun _ _ _ => none) (fun _ _ => none)) (some (.ret (.lit (.bool false)), h16))) (fun _ _ _ => none) (fun _ _ => none)))))))) none) none := by kernel_rfl
-- 51 limbeck/limbeckref26.SameVal
theorem nf51 (a0_ : AV) (a1_ : AV) : runF E 51 Try.f51 F n [a0_, a1_] h0 = (aggOf a0_).bind fun l1 => cond (Nat.beq l1.length 10) ((aggOf a1_).bind fun l2 => cond (Nat.beq l2.length 10) ((binAV E .neq 3 (l1.getD 0 .dead) (l2.getD 0 .dead)).bind fun r3 => (boolOf r3).bind fun b4 => cond b4 (some (.ret (.lit (.bool false)), h0)) ((binAV E .neq 3 (l1.getD 1 .dead) (l2.getD 1 .dead)).bind fun r5 => (boolOf r5).bind fun b6 => cond b6 (some (.ret (.lit (.bool false)), h0)) ((binAV E .neq 3 (l1.getD 2 .dead) (l2.getD 2 .dead)).bind fun r7 => (boolOf r7).bind fun b8 => cond b8 (some (.ret (.lit (.bool false)), h0)) ((binAV E .neq 4 (l1.getD 3 .dead) (l2.getD 3 .dead)).bind fun r9 => (boolOf r9).bind fun b10 => cond b10 (some (.ret (.lit (.bool false)), h0)) ((binAV E .neq 9 (l1.getD 4 .dead) (l2.getD 4 .dead)).bind fun r11 => (boolOf r11).bind fun b12 => cond b12 (some (.ret (.lit (.bool false)), h0)) ((binAV E .neq 25 (.agg [(l1.getD 5 .dead), (l1.getD 6 .dead)]) (.agg [(l2.getD 5 .dead), (l2.getD 6 .dead)])).bind fun r13 => (boolOf r13).bind fun b14 => cond b14 (some (.ret (.lit (.bool false)), h0)) (onOut (F 96 [(l1.getD 7 .dead), (l2.getD 7 .dead)] h0) (fun a15 h16 => (unAV .not a15).bind fun r17 => (boolOf r17).bind fun b18 => cond b18 (some (.ret (.lit (.bool false)), h16)) (onOut (F 79 [(l1.getD 8 .dead), (l2.getD 8 .dead)] h16) (fun a19 h20 => (unAV .not a19).bind fun r21 => (boolOf r21).bind fun b22 => cond b22 (some (.ret (.lit (.bool false)), h20)) (onOut (F 97 [(l1.getD 9 .dead), (l2.getD 9 .dead)] h20) (fun a23 h24 => some (.ret a23, h24)) (fun _ _ _ => none) (fun _ _ => none))) (fun _ _ _ => none) (fun _ _ => none))) (fun _ _ _ => none) (fun _ _ => none)))))))) none) none := by kernel_rfl
-- 52 limbeck/core.Put
theorem nf52 (a0_ : AV) (a1_ : AV) (a2_ : AV) : runF E 52 Try.f52 F n [a0_, a1_, a2_] h0 = (aggOf a0_).bind fun l1 => cond (Nat.beq l1.length 11) (cond (AV.one a1_) ((aggOf a2_).bind fun l2 => cond (Nat.beq l2.length 10) ((hpart false 1 0 (h0).length (((h0 ++ ([[.v (l1.getD 0 .dead), .v (l1.getD 1 .dead), .v (l1.getD 2 .dead), .v (l1.getD 3 .dead), .v (l1.getD 4 .dead), .v (l1.getD 5 .dead), .v (l1.getD 6 .dead), .v (l1.getD 7 .dead), .v (l1.getD 8 .dead), .v (l1.getD 9 .dead), .v (l1.getD 10 .dead)]] : Heap)) ++ ([[.v a1_]] : Heap)) ++ ([[.v (l2.getD 0 .dead), .v (l2.getD 1 .dead), .v (l2.getD 2 .dead), .v (l2.getD 3 .dead), .v (l2.getD 4 .dead), .v (l2.getD 5 .dead), .v (l2.getD 6 .dead), .v (l2.getD 7 .dead), .v (l2.getD 8 .dead), .v (l2.getD 9 .dead)]] : Heap))).bind fun v3 => (binAV E .eql 3 v3 (.lit (.int .i64 4))).bind fun r4 => (boolOf r4).bind fun b5 => cond b5 ((hpart false 1 4 (h0).length (((h0 ++ ([[.v (l1.getD 0 .dead), .v (l1.getD 1 .dead), .v (l1.getD 2 .dead), .v (l1.getD 3 .dead), .v (l1.getD 4 .dead), .v (l1.getD 5 .dead), .v (l1.getD 6 .dead), .v (l1.getD 7 .dead), .v (l1.getD 8 .dead), .v (l1.getD 9 .dead), .v (l1.getD 10 .dead)]] : Heap)) ++ ([[.v a1_]] : Heap)) ++ ([[.v (l2.getD 0 .dead), .v (l2.getD 1 .dead), .v (l2.getD 2 .dead), .v (l2.getD 3 .dead), .v (l2.getD 4 .dead), .v (l2.getD 5 .dead), .v (l2.getD 6 .dead), .v (l2.getD 7 .dead), .v (l2.getD 8 .dead), .v (l2.getD 9 .dead)]] : Heap))).bind fun v6 => (hpart false 1 0 ((h0 ++ ([[.v (l1.getD 0 .dead), .v (l1.getD 1 .dead), .v (l1.getD 2 .dead), .v (l1.getD 3 .dead), .v (l1.getD 4 .dead), .v (l1.getD 5 .dead), .v (l1.getD 6 .dead), .v (l1.getD 7 .dead), .v (l1.getD 8 .dead), .v (l1.getD 9 .dead), .v (l1.getD 10 .dead)]] : Heap))).length (((h0 ++ ([[.v (l1.getD 0 .dead), .v (l1.getD 1 .dead), .v (l1.getD 2 .dead), .v (l1.getD 3 .dead), .v (l1.getD 4 .dead), .v (l1.getD 5 .dead), .v (l1.getD 6 .dead), .v (l1.getD 7 .dead), .v (l1.getD 8 .dead), .v (l1.getD 9 .dead), .v (l1.getD 10 .dead)]] : Heap)) ++ ([[.v a1_]] : Heap)) ++ ([[.v (l2.getD 0 .dead), .v (l2.getD 1 .dead), .v (l2.getD 2 .dead), .v (l2.getD 3 .dead), .v (l2.getD 4 .dead), .v (l2.getD 5 .dead), .v (l2.getD 6 .dead), .v (l2.getD 7 .dead), .v (l2.getD 8 .dead), .v (l2.getD 9 .dead)]] : Heap))).bind fun v7 => (binAV E .eql 9 v6 v7).bind fun r8 => (boolOf r8).bind fun b9 => cond b9 ((hpart true 10 0 (((h0 ++ ([[.v (l1.getD 0 .dead), .v (l1.getD 1 .dead), .v (l1.getD 2 .dead), .v (l1.getD 3 .dead), .v (l1.getD 4 .dead), .v (l1.getD 5 .dead), .v (l1.getD 6 .dead), .v (l1.getD 7 .dead), .v (l1.getD 8 .dead), .v (l1.getD 9 .dead), .v (l1.getD 10 .dead)]] : Heap)) ++ ([[.v a1_]] : Heap))).length (((h0 ++ ([[.v (l1.getD 0 .dead), .v (l1.getD 1 .dead), .v (l1.getD 2 .dead), .v (l1.getD 3 .dead), .v (l1.getD 4 .dead), .v (l1.getD 5 .dead), .v (l1.getD 6 .dead), .v (l1.getD 7 .dead), .v (l1.getD 8 .dead), .v (l1.getD 9 .dead), .v (l1.getD 10 .dead)]] : Heap)) ++ ([[.v a1_]] : Heap)) ++ ([[.v (l2.getD 0 .dead), .v (l2.getD 1 .dead), .v (l2.getD 2 .dead), .v (l2.getD 3 .dead), .v (l2.getD 4 .dead), .v (l2.getD 5 .dead), .v (l2.getD 6 .dead), .v (l2.getD 7 .dead), .v (l2.getD 8 .dead), .v (l2.getD 9 .dead)]] : Heap))).bind fun v10 => (aggOf v10).bind fun l11 => cond (Nat.beq l11.length 10) (trunc (E.hint 52) h0 (.ret (.agg [.lit (.int .i64 14), .lit (.int .i64 0), .lit (.int .i64 0), .lit (.bool false), .lit (.string ByteArray.empty), .lit (.string ByteArray.empty), .lit (.int .i64 0), .sl 5 [], .sl 1 [], .sl 11 [], .sl 10 [[(l11.getD 0 .dead), (l11.getD 1 .dead), (l11.getD 2 .dead), (l11.getD 3 .dead), (l11.getD 4 .dead), (l11.getD 5 .dead), (l11.getD 6 .dead), (l11.getD 7 .dead), (l11.getD 8 .dead), (l11.getD 9 .dead)]]])) (((h0 ++ ([[.v (l1.getD 0 .dead), .v (l1.getD 1 .dead), .v (l1.getD 2 .dead), .v (l1.getD 3 .dead), .v (l1.getD 4 .dead), .v (l1.getD 5 .dead), .v (l1.getD 6 .dead), .v (l1.getD 7 .dead), .v (l1.getD 8 .dead), .v (l1.getD 9 .dead), .v (l1.getD 10 .dead)]] : Heap)) ++ ([[.v a1_]] : Heap)) ++ ([[.v (l2.getD 0 .dead), .v (l2.getD 1 .dead), .v (l2.getD 2 .dead), .v (l2.getD 3 .dead), .v (l2.getD 4 .dead), .v (l2.getD 5 .dead), .v (l2.getD 6 .dead), .v (l2.getD 7 .dead), .v (l2.getD 8 .dead), .v (l2.getD 9 .dead)]] : Heap))) none) ((hpart true 11 0 (h0).length (((h0 ++ ([[.v (l1.getD 0 .dead), .v (l1.getD 1 .dead), .v (l1.getD 2 .dead), .v (l1.getD 3 .dead), .v (l1.getD 4 .dead), .v (l1.getD 5 .dead), .v (l1.getD 6 .dead), .v (l1.getD 7 .dead), .v (l1.getD 8 .dead), .v (l1.getD 9 .dead), .v (l1.getD 10 .dead)]] : Heap)) ++ ([[.v a1_]] : Heap)) ++ ([[.v (l2.getD 0 .dead), .v (l2.getD 1 .dead), .v (l2.getD 2 .dead), .v (l2.getD 3 .dead), .v (l2.getD 4 .dead), .v (l2.getD 5 .dead), .v (l2.getD 6 .dead), .v (l2.getD 7 .dead), .v (l2.getD 8 .dead), .v (l2.getD 9 .dead)]] : Heap))).bind fun v12 => onOut (F 98 [v12, .fn 105 [] [.hp (h0).length 0, .hp ((h0 ++ ([[.v (l1.getD 0 .dead), .v (l1.getD 1 .dead), .v (l1.getD 2 .dead), .v (l1.getD 3 .dead), .v (l1.getD 4 .dead), .v (l1.getD 5 .dead), .v (l1.getD 6 .dead), .v (l1.getD 7 .dead), .v (l1.getD 8 .dead), .v (l1.getD 9 .dead), .v (l1.getD 10 .dead)]] : Heap))).length 0, .hp (((h0 ++ ([[.v (l1.getD 0 .dead), .v (l1.getD 1 .dead), .v (l1.getD 2 .dead), .v (l1.getD 3 .dead), .v (l1.getD 4 .dead), .v (l1.getD 5 .dead), .v (l1.getD 6 .dead), .v (l1.getD 7 .dead), .v (l1.getD 8 .dead), .v (l1.getD 9 .dead), .v (l1.getD 10 .dead)]] : Heap)) ++ ([[.v a1_]] : Heap))).length 0]] (((h0 ++ ([[.v (l1.getD 0 .dead), .v (l1.getD 1 .dead), .v (l1.getD 2 .dead), .v (l1.getD 3 .dead), .v (l1.getD 4 .dead), .v (l1.getD 5 .dead), .v (l1.getD 6 .dead), .v (l1.getD 7 .dead), .v (l1.getD 8 .dead), .v (l1.getD 9 .dead), .v (l1.getD 10 .dead)]] : Heap)) ++ ([[.v a1_]] : Heap)) ++ ([[.v (l2.getD 0 .dead), .v (l2.getD 1 .dead), .v (l2.getD 2 .dead), .v (l2.getD 3 .dead), .v (l2.getD 4 .dead), .v (l2.getD 5 .dead), .v (l2.getD 6 .dead), .v (l2.getD 7 .dead), .v (l2.getD 8 .dead), .v (l2.getD 9 .dead)]] : Heap))) (fun a13 h14 => (aggOf a13).bind fun l15 => cond (Nat.beq l15.length 11) (trunc (E.hint 52) h0 (.ret (.agg [(l15.getD 0 .dead), (l15.getD 1 .dead), (l15.getD 2 .dead), (l15.getD 3 .dead), (l15.getD 4 .dead), (l15.getD 5 .dead), (l15.getD 6 .dead), (l15.getD 7 .dead), (l15.getD 8 .dead), (l15.getD 9 .dead), (l15.getD 10 .dead)])) h14) none) (fun _ _ _ => none) (fun _ _ => none))) ((hpart true 11 0 (h0).length (((h0 ++ ([[.v (l1.getD 0 .dead), .v (l1.getD 1 .dead), .v (l1.getD 2 .dead), .v (l1.getD 3 .dead), .v (l1.getD 4 .dead), .v (l1.getD 5 .dead), .v (l1.getD 6 .dead), .v (l1.getD 7 .dead), .v (l1.getD 8 .dead), .v (l1.getD 9 .dead), .v (l1.getD 10 .dead)]] : Heap)) ++ ([[.v a1_]] : Heap)) ++ ([[.v (l2.getD 0 .dead), .v (l2.getD 1 .dead), .v (l2.getD 2 .dead), .v (l2.getD 3 .dead), .v (l2.getD 4 .dead), .v (l2.getD 5 .dead), .v (l2.getD 6 .dead), .v (l2.getD 7 .dead), .v (l2.getD 8 .dead), .v (l2.getD 9 .dead)]] : Heap))).bind fun v16 => onOut (F 98 [v16, .fn 105 [] [.hp (h0).length 0, .hp ((h0 ++ ([[.v (l1.getD 0 .dead), .v (l1.getD 1 .dead), .v (l1.getD 2 .dead), .v (l1.getD 3 .dead), .v (l1.getD 4 .dead), .v (l1.getD 5 .dead), .v (l1.getD 6 .dead), .v (l1.getD 7 .dead), .v (l1.getD 8 .dead), .v (l1.getD 9 .dead), .v (l1.getD 10 .dead)]] : Heap))).length 0, .hp (((h0 ++ ([[.v (l1.getD 0 .dead), .v (l1.getD 1 .dead), .v (l1.getD 2 .dead), .v (l1.getD 3 .dead), .v (l1.getD 4 .dead), .v (l1.getD 5 .dead), .v (l1.getD 6 .dead), .v (l1.getD 7 .dead), .v (l1.getD 8 .dead), .v (l1.getD 9 .dead), .v (l1.getD 10 .dead)]] : Heap)) ++ ([[.v a1_]] : Heap))).length 0]] (((h0 ++ ([[.v (l1.getD 0 .dead), .v (l1.getD 1 .dead), .v (l1.getD 2 .dead), .v (l1.getD 3 .dead), .v (l1.getD 4 .dead), .v (l1.getD 5 .dead), .v (l1.getD 6 .dead), .v (l1.getD 7 .dead), .v (l1.getD 8 .dead), .v (l1.getD 9 .dead), .v (l1.getD 10 .dead)]] : Heap)) ++ ([[.v a1_]] : Heap)) ++ ([[.v (l2.getD 0 .dead), .v (l2.getD 1 .dead), .v (l2.getD 2 .dead), .v (l2.getD 3 .dead), .v (l2.getD 4 .dead), .v (l2.getD 5 .dead), .v (l2.getD 6 .dead), .v (l2.getD 7 .dead), .v (l2.getD 8 .dead), .v (l2.getD 9 .dead)]] : Heap))) (fun a17 h18 => (aggOf a17).bind fun l19 => cond (Nat.beq l19.length 11) (trunc (E.hint 52) h0 (.ret (.agg [(l19.getD 0 .dead), (l19.getD 1 .dead), (l19.getD 2 .dead), (l19.getD 3 .dead), (l19.getD 4 .dead), (l19.getD 5 .dead), (l19.getD 6 .dead), (l19.getD 7 .dead), (l19.getD 8 .dead), (l19.getD 9 .dead), (l19.getD 10 .dead)])) h18) none) (fun _ _ _ => none) (fun _ _ => none))) none) none) none := by kernel_rfl
-- 53 limbeck/limbeckref26.Put
noncomputable def Lp53_0 (m : Nat) (h : Heap) (x7 : AV) (x8 : AV) (x9 : AV) (x10 : AV) (x11 : AV) (x12 : AV) (x13 : AV) (x14 : AV) (x15 : AV) (x16 : AV) (x17 : AV) (x18 : AV) (x19 : AV) (x20 : AV) (x21 : AV) (x22 : AV) (x23 : AV) (x24 : AV) (x25 : AV) (x26 : AV) (x27 : AV) (x28 : AV) (x29 : AV) (x30 : AV) (x31 : AV) (x32 : AV) (x33 : AV) (x34 : AV) (x35 : AV) (z36 : List (List AV)) (z37 : List (List AV)) (z38 : List (List AV)) (z39 : List (List AV)) (x40 : AV) (x41 : AV) (x42 : AV) (x43 : AV) (x44 : AV) (x45 : AV) (x46 : AV) (x47 : AV) (x48 : AV) (z49 : List (List AV)) (x50 : AV) (x51 : AV) : R := loopAt E 53 Try.f53 F n h0 [.r, .r, .r, .r, .l, .r, .b] m { s := lkS [(1, .c (.v x7)), (3, .loc [.v x8, .v x9, .v x10, .v x11, .v x12, .v x13, .v x14, .v x15, .v x16, .v x17, .v x18]), (5, .loc [.v x19, .v x20, .v x21, .v x22, .v x23, .v x24, .v x25, .v x26, .v x27, .v x28]), (6, .loc [.v x29, .v x30, .v x31, .v x32, .v x33, .v x34, .v x35, .own 5 z36, .own 1 z37, .own 11 z38, .own 10 z39]), (7, .loc [.v x40, .v x41, .v x42, .v x43, .v x44, .v x45, .v x46, .v x47, .v x48, .own 11 z49, .v x50]), (8, .c (.v x51))], h := h }
theorem Lp53_0_zero (h : Heap) (x7 : AV) (x8 : AV) (x9 : AV) (x10 : AV) (x11 : AV) (x12 : AV) (x13 : AV) (x14 : AV) (x15 : AV) (x16 : AV) (x17 : AV) (x18 : AV) (x19 : AV) (x20 : AV) (x21 : AV) (x22 : AV) (x23 : AV) (x24 : AV) (x25 : AV) (x26 : AV) (x27 : AV) (x28 : AV) (x29 : AV) (x30 : AV) (x31 : AV) (x32 : AV) (x33 : AV) (x34 : AV) (x35 : AV) (z36 : List (List AV)) (z37 : List (List AV)) (z38 : List (List AV)) (z39 : List (List AV)) (x40 : AV) (x41 : AV) (x42 : AV) (x43 : AV) (x44 : AV) (x45 : AV) (x46 : AV) (x47 : AV) (x48 : AV) (z49 : List (List AV)) (x50 : AV) (x51 : AV) : Lp53_0 F n h0 0 h x7 x8 x9 x10 x11 x12 x13 x14 x15 x16 x17 x18 x19 x20 x21 x22 x23 x24 x25 x26 x27 x28 x29 x30 x31 x32 x33 x34 x35 z36 z37 z38 z39 x40 x41 x42 x43 x44 x45 x46 x47 x48 z49 x50 x51 = none := by kernel_rfl
theorem Lp53_0_succ (m : Nat) (h : Heap) (x7 : AV) (x8 : AV) (x9 : AV) (x10 : AV) (x11 : AV) (x12 : AV) (x13 : AV) (x14 : AV) (x15 : AV) (x16 : AV) (x17 : AV) (x18 : AV) (x19 : AV) (x20 : AV) (x21 : AV) (x22 : AV) (x23 : AV) (x24 : AV) (x25 : AV) (x26 : AV) (x27 : AV) (x28 : AV) (x29 : AV) (x30 : AV) (x31 : AV) (x32 : AV) (x33 : AV) (x34 : AV) (x35 : AV) (z36 : List (List AV)) (z37 : List (List AV)) (z38 : List (List AV)) (z39 : List (List AV)) (x40 : AV) (x41 : AV) (x42 : AV) (x43 : AV) (x44 : AV) (x45 : AV) (x46 : AV) (x47 : AV) (x48 : AV) (z49 : List (List AV)) (x50 : AV) (x51 : AV) : Lp53_0 F n h0 (m + 1) h x7 x8 x9 x10 x11 x12 x13 x14 x15 x16 x17 x18 x19 x20 x21 x22 x23 x24 x25 x26 x27 x28 x29 x30 x31 x32 x33 x34 x35 z36 z37 z38 z39 x40 x41 x42 x43 x44 x45 x46 x47 x48 z49 x50 x51 = (lenA E 54 x17).bind fun n52 => (binAV E .lss 3 x51 (.lit (.int .i64 n52))).bind fun r53 => (boolOf r53).bind fun b54 => cond b54 ((binAV E .eql 9 x12 x7).bind fun r55 => (boolOf r55).bind fun b56 => cond b56 ((binAV E .eql 3 x8 (.lit (.int .i64 7))).bind fun r57 => (boolOf r57).bind fun b58 => cond b58 ((indexA 11 x17 x51).bind fun e59 => (partA true 11 0 e59).bind fun v60 => (aggOf v60).bind fun l61 => cond (Nat.beq l61.length 11) (cond (Nat.ble (z49.length + ([[(l61.getD 0 .dead), (l61.getD 1 .dead), (l61.getD 2 .dead), (l61.getD 3 .dead), (l61.getD 4 .dead), (l61.getD 5 .dead), (l61.getD 6 .dead), (l61.getD 7 .dead), (l61.getD 8 .dead), (l61.getD 9 .dead), (l61.getD 10 .dead)]] : List (List AV)).length) maxApp) ((binAV E .add 3 x51 (.lit (.int .i64 1))).bind fun r62 => Lp53_0 F n h0 m h x7 x8 x9 x10 x11 x12 x13 x14 x15 x16 x17 x18 x19 x20 x21 x22 x23 x24 x25 x26 x27 x28 x29 x30 x31 x32 x33 x34 x35 z36 z37 z38 z39 x40 x41 x42 x43 x44 x45 x46 x47 x48 (z49 ++ [[(l61.getD 0 .dead), (l61.getD 1 .dead), (l61.getD 2 .dead), (l61.getD 3 .dead), (l61.getD 4 .dead), (l61.getD 5 .dead), (l61.getD 6 .dead), (l61.getD 7 .dead), (l61.getD 8 .dead), (l61.getD 9 .dead), (l61.getD 10 .dead)]]) x50 r62) none) none) ((binAV E .eql 3 x8 (.lit (.int .i64 5))).bind fun r63 => (boolOf r63).bind fun b64 => cond b64 ((binAV E .eql 3 x51 (.lit (.int .i64 1))).bind fun r65 => (boolOf r65).bind fun b66 => cond b66 ((indexA 11 x17 x51).bind fun e67 => (partA true 11 0 e67).bind fun v68 => (aggOf v68).bind fun l69 => cond (Nat.beq l69.length 11) (cond (Nat.ble (z49.length + ([[(l69.getD 0 .dead), (l69.getD 1 .dead), (l69.getD 2 .dead), (l69.getD 3 .dead), (l69.getD 4 .dead), (l69.getD 5 .dead), (l69.getD 6 .dead), (l69.getD 7 .dead), (l69.getD 8 .dead), (l69.getD 9 .dead), (l69.getD 10 .dead)]] : List (List AV)).length) maxApp) ((binAV E .add 3 x51 (.lit (.int .i64 1))).bind fun r70 => Lp53_0 F n h0 m h x7 x8 x9 x10 x11 x12 x13 x14 x15 x16 x17 x18 x19 x20 x21 x22 x23 x24 x25 x26 x27 x28 x29 x30 x31 x32 x33 x34 x35 z36 z37 z38 z39 x40 x41 x42 x43 x44 x45 x46 x47 x48 (z49 ++ [[(l69.getD 0 .dead), (l69.getD 1 .dead), (l69.getD 2 .dead), (l69.getD 3 .dead), (l69.getD 4 .dead), (l69.getD 5 .dead), (l69.getD 6 .dead), (l69.getD 7 .dead), (l69.getD 8 .dead), (l69.getD 9 .dead), (l69.getD 10 .dead)]]) x50 r70) none) none) ((indexA 11 x17 x51).bind fun e71 => (partA true 11 0 e71).bind fun v72 => onOut (F 53 [v72, x7, .agg [x19, x20, x21, x22, x23, x24, x25, x26, x27, x28]] h) (fun a73 h74 => (aggOf a73).bind fun l75 => cond (Nat.beq l75.length 11) (cond (Nat.ble (z49.length + ([[(l75.getD 0 .dead), (l75.getD 1 .dead), (l75.getD 2 .dead), (l75.getD 3 .dead), (l75.getD 4 .dead), (l75.getD 5 .dead), (l75.getD 6 .dead), (l75.getD 7 .dead), (l75.getD 8 .dead), (l75.getD 9 .dead), (l75.getD 10 .dead)]] : List (List AV)).length) maxApp) ((binAV E .add 3 x51 (.lit (.int .i64 1))).bind fun r76 => Lp53_0 F n h0 m h74 x7 x8 x9 x10 x11 x12 x13 x14 x15 x16 x17 x18 x19 x20 x21 x22 x23 x24 x25 x26 x27 x28 x29 x30 x31 x32 x33 x34 x35 z36 z37 z38 z39 x40 x41 x42 x43 x44 x45 x46 x47 x48 (z49 ++ [[(l75.getD 0 .dead), (l75.getD 1 .dead), (l75.getD 2 .dead), (l75.getD 3 .dead), (l75.getD 4 .dead), (l75.getD 5 .dead), (l75.getD 6 .dead), (l75.getD 7 .dead), (l75.getD 8 .dead), (l75.getD 9 .dead), (l75.getD 10 .dead)]]) x50 r76) none) none) (fun _ _ _ => none) (fun _ _ => none))) ((indexA 11 x17 x51).bind fun e77 => (partA true 11 0 e77).bind fun v78 => onOut (F 53 [v78, x7, .agg [x19, x20, x21, x22, x23, x24, x25, x26, x27, x28]] h) (fun a79 h80 => (aggOf a79).bind fun l81 => cond (Nat.beq l81.length 11) (cond (Nat.ble (z49.length + ([[(l81.getD 0 .dead), (l81.getD 1 .dead), (l81.getD 2 .dead), (l81.getD 3 .dead), (l81.getD 4 .dead), (l81.getD 5 .dead), (l81.getD 6 .dead), (l81.getD 7 .dead), (l81.getD 8 .dead), (l81.getD 9 .dead), (l81.getD 10 .dead)]] : List (List AV)).length) maxApp) ((binAV E .add 3 x51 (.lit (.int .i64 1))).bind fun r82 => Lp53_0 F n h0 m h80 x7 x8 x9 x10 x11 x12 x13 x14 x15 x16 x17 x18 x19 x20 x21 x22 x23 x24 x25 x26 x27 x28 x29 x30 x31 x32 x33 x34 x35 z36 z37 z38 z39 x40 x41 x42 x43 x44 x45 x46 x47 x48 (z49 ++ [[(l81.getD 0 .dead), (l81.getD 1 .dead), (l81.getD 2 .dead), (l81.getD 3 .dead), (l81.getD 4 .dead), (l81.getD 5 .dead), (l81.getD 6 .dead), (l81.getD 7 .dead), (l81.getD 8 .dead), (l81.getD 9 .dead), (l81.getD 10 .dead)]]) x50 r82) none) none) (fun _ _ _ => none) (fun _ _ => none)))) ((indexA 11 x17 x51).bind fun e83 => (partA true 11 0 e83).bind fun v84 => onOut (F 53 [v84, x7, .agg [x19, x20, x21, x22, x23, x24, x25, x26, x27, x28]] h) (fun a85 h86 => (aggOf a85).bind fun l87 => cond (Nat.beq l87.length 11) (cond (Nat.ble (z49.length + ([[(l87.getD 0 .dead), (l87.getD 1 .dead), (l87.getD 2 .dead), (l87.getD 3 .dead), (l87.getD 4 .dead), (l87.getD 5 .dead), (l87.getD 6 .dead), (l87.getD 7 .dead), (l87.getD 8 .dead), (l87.getD 9 .dead), (l87.getD 10 .dead)]] : List (List AV)).length) maxApp) ((binAV E .add 3 x51 (.lit (.int .i64 1))).bind fun r88 => Lp53_0 F n h0 m h86 x7 x8 x9 x10 x11 x12 x13 x14 x15 x16 x17 x18 x19 x20 x21 x22 x23 x24 x25 x26 x27 x28 x29 x30 x31 x32 x33 x34 x35 z36 z37 z38 z39 x40 x41 x42 x43 x44 x45 x46 x47 x48 (z49 ++ [[(l87.getD 0 .dead), (l87.getD 1 .dead), (l87.getD 2 .dead), (l87.getD 3 .dead), (l87.getD 4 .dead), (l87.getD 5 .dead), (l87.getD 6 .dead), (l87.getD 7 .dead), (l87.getD 8 .dead), (l87.getD 9 .dead), (l87.getD 10 .dead)]]) x50 r88) none) none) (fun _ _ _ => none) (fun _ _ => none))) (some (.ret (.agg [x40, x41, x42, x43, x44, x45, x46, x47, x48, .sl 11 z49, x50]), h)) := by kernel_rfl
theorem nf53 (a0_ : AV) (a1_ : AV) (a2_ : AV) : runF E 53 Try.f53 F n [a0_, a1_, a2_] h0 = (aggOf a0_).bind fun l1 => cond (Nat.beq l1.length 11) ((aggOf a2_).bind fun l2 => cond (Nat.beq l2.length 10) ((binAV E .eql 3 (l1.getD 0 .dead) (.lit (.int .i64 4))).bind fun r3 => (boolOf r3).bind fun b4 => cond b4 ((binAV E .eql 9 (l1.getD 4 .dead) a1_).bind fun r5 => (boolOf r5).bind fun b6 => cond b6 (some (.ret (.agg [.lit (.int .i64 14), .lit (.int .i64 0), .lit (.int .i64 0), .lit (.bool false), .lit (.string ByteArray.empty), .lit (.string ByteArray.empty), .lit (.int .i64 0), .sl 5 [], .sl 1 [], .sl 11 [], .sl 10 [[(l2.getD 0 .dead), (l2.getD 1 .dead), (l2.getD 2 .dead), (l2.getD 3 .dead), (l2.getD 4 .dead), (l2.getD 5 .dead), (l2.getD 6 .dead), (l2.getD 7 .dead), (l2.getD 8 .dead), (l2.getD 9 .dead)]]]), h0)) (Lp53_0 F n h0 n h0 a1_ (l1.getD 0 .dead) (l1.getD 1 .dead) (l1.getD 2 .dead) (l1.getD 3 .dead) (l1.getD 4 .dead) (l1.getD 5 .dead) (l1.getD 6 .dead) (l1.getD 7 .dead) (l1.getD 8 .dead) (l1.getD 9 .dead) (l1.getD 10 .dead) (l2.getD 0 .dead) (l2.getD 1 .dead) (l2.getD 2 .dead) (l2.getD 3 .dead) (l2.getD 4 .dead) (l2.getD 5 .dead) (l2.getD 6 .dead) (l2.getD 7 .dead) (l2.getD 8 .dead) (l2.getD 9 .dead) (.lit (.int .i64 0)) (.lit (.int .i64 0)) (.lit (.int .i64 0)) (.lit (.bool false)) (.lit (.string ByteArray.empty)) (.lit (.string ByteArray.empty)) (.lit (.int .i64 0)) [] [] [] [] (l1.getD 0 .dead) (l1.getD 1 .dead) (l1.getD 2 .dead) (l1.getD 3 .dead) (l1.getD 4 .dead) (l1.getD 5 .dead) (l1.getD 6 .dead) (l1.getD 7 .dead) (l1.getD 8 .dead) [] (l1.getD 10 .dead) (.lit (.int .i64 0)))) (Lp53_0 F n h0 n h0 a1_ (l1.getD 0 .dead) (l1.getD 1 .dead) (l1.getD 2 .dead) (l1.getD 3 .dead) (l1.getD 4 .dead) (l1.getD 5 .dead) (l1.getD 6 .dead) (l1.getD 7 .dead) (l1.getD 8 .dead) (l1.getD 9 .dead) (l1.getD 10 .dead) (l2.getD 0 .dead) (l2.getD 1 .dead) (l2.getD 2 .dead) (l2.getD 3 .dead) (l2.getD 4 .dead) (l2.getD 5 .dead) (l2.getD 6 .dead) (l2.getD 7 .dead) (l2.getD 8 .dead) (l2.getD 9 .dead) (.lit (.int .i64 0)) (.lit (.int .i64 0)) (.lit (.int .i64 0)) (.lit (.bool false)) (.lit (.string ByteArray.empty)) (.lit (.string ByteArray.empty)) (.lit (.int .i64 0)) [] [] [] [] (l1.getD 0 .dead) (l1.getD 1 .dead) (l1.getD 2 .dead) (l1.getD 3 .dead) (l1.getD 4 .dead) (l1.getD 5 .dead) (l1.getD 6 .dead) (l1.getD 7 .dead) (l1.getD 8 .dead) [] (l1.getD 10 .dead) (.lit (.int .i64 0)))) none) none := by kernel_rfl
-- 54 limbeck/core.Seal
noncomputable def Lp54_0 (m : Nat) (h : Heap) (i6 : Nat) (i7 : Nat) (x8 : AV) (x9 : AV) (x10 : AV) (x11 : AV) (x12 : AV) (x13 : AV) (x14 : AV) (z15 : List (List AV)) (z16 : List (List AV)) (z17 : List (List AV)) (z18 : List (List AV)) (x19 : AV) (x20 : AV) (x21 : AV) (x22 : AV) (x23 : AV) (x24 : AV) (x25 : AV) (z26 : List (List AV)) (x27 : AV) (x28 : AV) (x29 : AV) (x30 : AV) (x31 : AV) (x32 : AV) : R := loopAt E 54 Try.f54 F n h0 [.r, .r, .r, .l, .r, .b] m { s := lkS [(4, .c (.v (.hp i6 0))), (5, .c (.v (.hp i7 0))), (6, .loc [.v x8, .v x9, .v x10, .v x11, .v x12, .v x13, .v x14, .own 5 z15, .own 1 z16, .own 11 z17, .own 10 z18]), (7, .loc [.v x19, .v x20, .v x21, .v x22, .v x23, .v x24, .v x25, .own 5 z26, .v x27, .v x28, .v x29]), (15, .c (.v x30)), (16, .c (.v x31)), (17, .c (.v x32))], h := h }
theorem Lp54_0_zero (h : Heap) (i6 : Nat) (i7 : Nat) (x8 : AV) (x9 : AV) (x10 : AV) (x11 : AV) (x12 : AV) (x13 : AV) (x14 : AV) (z15 : List (List AV)) (z16 : List (List AV)) (z17 : List (List AV)) (z18 : List (List AV)) (x19 : AV) (x20 : AV) (x21 : AV) (x22 : AV) (x23 : AV) (x24 : AV) (x25 : AV) (z26 : List (List AV)) (x27 : AV) (x28 : AV) (x29 : AV) (x30 : AV) (x31 : AV) (x32 : AV) : Lp54_0 F n h0 0 h i6 i7 x8 x9 x10 x11 x12 x13 x14 z15 z16 z17 z18 x19 x20 x21 x22 x23 x24 x25 z26 x27 x28 x29 x30 x31 x32 = none := by kernel_rfl
theorem Lp54_0_succ (m : Nat) (h : Heap) (i6 : Nat) (i7 : Nat) (x8 : AV) (x9 : AV) (x10 : AV) (x11 : AV) (x12 : AV) (x13 : AV) (x14 : AV) (z15 : List (List AV)) (z16 : List (List AV)) (z17 : List (List AV)) (z18 : List (List AV)) (x19 : AV) (x20 : AV) (x21 : AV) (x22 : AV) (x23 : AV) (x24 : AV) (x25 : AV) (z26 : List (List AV)) (x27 : AV) (x28 : AV) (x29 : AV) (x30 : AV) (x31 : AV) (x32 : AV) : Lp54_0 F n h0 (m + 1) h i6 i7 x8 x9 x10 x11 x12 x13 x14 z15 z16 z17 z18 x19 x20 x21 x22 x23 x24 x25 z26 x27 x28 x29 x30 x31 x32 = (binAV E .lss 3 x32 x31).bind fun r33 => (boolOf r33).bind fun b34 => cond b34 ((indexA 5 x30 x32).bind fun e35 => (partA true 5 0 e35).bind fun v36 => (aggOf v36).bind fun l37 => cond (Nat.beq l37.length 5) ((hpart false 1 0 i6 h).bind fun v38 => (hpart false 1 0 i7 h).bind fun v39 => onOut (F 86 [.agg [(l37.getD 0 .dead), (l37.getD 1 .dead), (l37.getD 2 .dead), (l37.getD 3 .dead), (l37.getD 4 .dead)], v38, v39] h) (fun a40 h41 => (aggOf a40).bind fun l42 => cond (Nat.beq l42.length 5) (cond (Nat.ble (z26.length + ([[(l42.getD 0 .dead), (l42.getD 1 .dead), (l42.getD 2 .dead), (l42.getD 3 .dead), (l42.getD 4 .dead)]] : List (List AV)).length) maxApp) ((binAV E .add 3 x32 (.lit (.int .i64 1))).bind fun r43 => Lp54_0 F n h0 m h41 i6 i7 x8 x9 x10 x11 x12 x13 x14 z15 z16 z17 z18 x19 x20 x21 x22 x23 x24 x25 (z26 ++ [[(l42.getD 0 .dead), (l42.getD 1 .dead), (l42.getD 2 .dead), (l42.getD 3 .dead), (l42.getD 4 .dead)]]) x27 x28 x29 x30 x31 r43) none) none) (fun _ _ _ => none) (fun _ _ => none)) none) (trunc (E.hint 54) h0 (.ret (.agg [x19, x20, x21, x22, x23, x24, x25, .sl 5 z26, x27, x28, x29])) h) := by kernel_rfl
theorem nf54 (a0_ : AV) (a1_ : AV) (a2_ : AV) : runF E 54 Try.f54 F n [a0_, a1_, a2_] h0 = (aggOf a0_).bind fun l1 => cond (Nat.beq l1.length 11) (cond (AV.one a1_) (cond (AV.one a2_) (onOut (F 98 [.agg [(l1.getD 0 .dead), (l1.getD 1 .dead), (l1.getD 2 .dead), (l1.getD 3 .dead), (l1.getD 4 .dead), (l1.getD 5 .dead), (l1.getD 6 .dead), (l1.getD 7 .dead), (l1.getD 8 .dead), (l1.getD 9 .dead), (l1.getD 10 .dead)], .fn 106 [] [.hp (h0).length 0, .hp ((h0 ++ ([[.v a1_]] : Heap))).length 0]] ((h0 ++ ([[.v a1_]] : Heap)) ++ ([[.v a2_]] : Heap))) (fun a2 h3 => (aggOf a2).bind fun l4 => cond (Nat.beq l4.length 11) ((lenA E 29 (l1.getD 7 .dead)).bind fun n5 => Lp54_0 F n h0 n h3 (h0).length (((h0 ++ ([[.v a1_]] : Heap))).length) (.lit (.int .i64 0)) (.lit (.int .i64 0)) (.lit (.int .i64 0)) (.lit (.bool false)) (.lit (.string ByteArray.empty)) (.lit (.string ByteArray.empty)) (.lit (.int .i64 0)) [] [] [] [] (l4.getD 0 .dead) (l4.getD 1 .dead) (l4.getD 2 .dead) (l4.getD 3 .dead) (l4.getD 4 .dead) (l4.getD 5 .dead) (l4.getD 6 .dead) [] (l4.getD 8 .dead) (l4.getD 9 .dead) (l4.getD 10 .dead) (l1.getD 7 .dead) (.lit (.int .i64 n5)) (.lit (.int .i64 0))) none) (fun _ _ _ => none) (fun _ _ => none)) none) none) none := by kernel_rfl
-- 55 limbeck/limbeckref26.Seal
noncomputable def Lp55_1 (m : Nat) (h : Heap) (x47 : AV) (x48 : AV) (x49 : AV) (x50 : AV) (x51 : AV) (x52 : AV) (x53 : AV) (x54 : AV) (x55 : AV) (x56 : AV) (x57 : AV) (x58 : AV) (x59 : AV) (x60 : AV) (x61 : AV) (x62 : AV) (x63 : AV) (x64 : AV) (x65 : AV) (x66 : AV) (z67 : List (List AV)) (z68 : List (List AV)) (z69 : List (List AV)) (z70 : List (List AV)) (x71 : AV) (x72 : AV) (x73 : AV) (x74 : AV) (x75 : AV) (x76 : AV) (x77 : AV) (z78 : List (List AV)) (x79 : AV) (z80 : List (List AV)) (x81 : AV) (x82 : AV) : R := loopAt E 55 Try.f55 F n h0 [.r, .r, .r, .r, .r, .l, .r, .b] m { s := lkS [(1, .c (.v x47)), (2, .c (.v x48)), (3, .loc [.v x49, .v x50, .v x51, .v x52, .v x53, .v x54, .v x55, .v x56, .v x57, .v x58, .v x59]), (6, .loc [.v x60, .v x61, .v x62, .v x63, .v x64, .v x65, .v x66, .own 5 z67, .own 1 z68, .own 11 z69, .own 10 z70]), (7, .loc [.v x71, .v x72, .v x73, .v x74, .v x75, .v x76, .v x77, .own 5 z78, .v x79, .own 11 z80, .v x81]), (9, .c (.v x82))], h := h }
theorem Lp55_1_zero (h : Heap) (x47 : AV) (x48 : AV) (x49 : AV) (x50 : AV) (x51 : AV) (x52 : AV) (x53 : AV) (x54 : AV) (x55 : AV) (x56 : AV) (x57 : AV) (x58 : AV) (x59 : AV) (x60 : AV) (x61 : AV) (x62 : AV) (x63 : AV) (x64 : AV) (x65 : AV) (x66 : AV) (z67 : List (List AV)) (z68 : List (List AV)) (z69 : List (List AV)) (z70 : List (List AV)) (x71 : AV) (x72 : AV) (x73 : AV) (x74 : AV) (x75 : AV) (x76 : AV) (x77 : AV) (z78 : List (List AV)) (x79 : AV) (z80 : List (List AV)) (x81 : AV) (x82 : AV) : Lp55_1 F n h0 0 h x47 x48 x49 x50 x51 x52 x53 x54 x55 x56 x57 x58 x59 x60 x61 x62 x63 x64 x65 x66 z67 z68 z69 z70 x71 x72 x73 x74 x75 x76 x77 z78 x79 z80 x81 x82 = none := by kernel_rfl
theorem Lp55_1_succ (m : Nat) (h : Heap) (x47 : AV) (x48 : AV) (x49 : AV) (x50 : AV) (x51 : AV) (x52 : AV) (x53 : AV) (x54 : AV) (x55 : AV) (x56 : AV) (x57 : AV) (x58 : AV) (x59 : AV) (x60 : AV) (x61 : AV) (x62 : AV) (x63 : AV) (x64 : AV) (x65 : AV) (x66 : AV) (z67 : List (List AV)) (z68 : List (List AV)) (z69 : List (List AV)) (z70 : List (List AV)) (x71 : AV) (x72 : AV) (x73 : AV) (x74 : AV) (x75 : AV) (x76 : AV) (x77 : AV) (z78 : List (List AV)) (x79 : AV) (z80 : List (List AV)) (x81 : AV) (x82 : AV) : Lp55_1 F n h0 (m + 1) h x47 x48 x49 x50 x51 x52 x53 x54 x55 x56 x57 x58 x59 x60 x61 x62 x63 x64 x65 x66 z67 z68 z69 z70 x71 x72 x73 x74 x75 x76 x77 z78 x79 z80 x81 x82 = (lenA E 54 x58).bind fun n83 => (binAV E .lss 3 x82 (.lit (.int .i64 n83))).bind fun r84 => (boolOf r84).bind fun b85 => cond b85 ((indexA 11 x58 x82).bind fun e86 => (partA true 11 0 e86).bind fun v87 => onOut (F 55 [v87, x47, x48] h) (fun a88 h89 => (aggOf a88).bind fun l90 => cond (Nat.beq l90.length 11) (cond (Nat.ble (z80.length + ([[(l90.getD 0 .dead), (l90.getD 1 .dead), (l90.getD 2 .dead), (l90.getD 3 .dead), (l90.getD 4 .dead), (l90.getD 5 .dead), (l90.getD 6 .dead), (l90.getD 7 .dead), (l90.getD 8 .dead), (l90.getD 9 .dead), (l90.getD 10 .dead)]] : List (List AV)).length) maxApp) ((binAV E .add 3 x82 (.lit (.int .i64 1))).bind fun r91 => Lp55_1 F n h0 m h89 x47 x48 x49 x50 x51 x52 x53 x54 x55 x56 x57 x58 x59 x60 x61 x62 x63 x64 x65 x66 z67 z68 z69 z70 x71 x72 x73 x74 x75 x76 x77 z78 x79 (z80 ++ [[(l90.getD 0 .dead), (l90.getD 1 .dead), (l90.getD 2 .dead), (l90.getD 3 .dead), (l90.getD 4 .dead), (l90.getD 5 .dead), (l90.getD 6 .dead), (l90.getD 7 .dead), (l90.getD 8 .dead), (l90.getD 9 .dead), (l90.getD 10 .dead)]]) x81 r91) none) none) (fun _ _ _ => none) (fun _ _ => none)) (some (.ret (.agg [x71, x72, x73, x74, x75, x76, x77, .sl 5 z78, x79, .sl 11 z80, x81]), h)) := by kernel_rfl
noncomputable def Lp55_0 (m : Nat) (h : Heap) (x2 : AV) (x3 : AV) (x4 : AV) (x5 : AV) (x6 : AV) (x7 : AV) (x8 : AV) (x9 : AV) (x10 : AV) (x11 : AV) (x12 : AV) (x13 : AV) (x14 : AV) (x15 : AV) (x16 : AV) (x17 : AV) (x18 : AV) (x19 : AV) (x20 : AV) (x21 : AV) (z22 : List (List AV)) (z23 : List (List AV)) (z24 : List (List AV)) (z25 : List (List AV)) (x26 : AV) (x27 : AV) (x28 : AV) (x29 : AV) (x30 : AV) (x31 : AV) (x32 : AV) (z33 : List (List AV)) (x34 : AV) (x35 : AV) (x36 : AV) (x37 : AV) : R := loopAt E 55 Try.f55 F n h0 [.r, .r, .r, .l, .r, .b] m { s := lkS [(1, .c (.v x2)), (2, .c (.v x3)), (3, .loc [.v x4, .v x5, .v x6, .v x7, .v x8, .v x9, .v x10, .v x11, .v x12, .v x13, .v x14]), (6, .loc [.v x15, .v x16, .v x17, .v x18, .v x19, .v x20, .v x21, .own 5 z22, .own 1 z23, .own 11 z24, .own 10 z25]), (7, .loc [.v x26, .v x27, .v x28, .v x29, .v x30, .v x31, .v x32, .own 5 z33, .v x34, .v x35, .v x36]), (8, .c (.v x37))], h := h }
theorem Lp55_0_zero (h : Heap) (x2 : AV) (x3 : AV) (x4 : AV) (x5 : AV) (x6 : AV) (x7 : AV) (x8 : AV) (x9 : AV) (x10 : AV) (x11 : AV) (x12 : AV) (x13 : AV) (x14 : AV) (x15 : AV) (x16 : AV) (x17 : AV) (x18 : AV) (x19 : AV) (x20 : AV) (x21 : AV) (z22 : List (List AV)) (z23 : List (List AV)) (z24 : List (List AV)) (z25 : List (List AV)) (x26 : AV) (x27 : AV) (x28 : AV) (x29 : AV) (x30 : AV) (x31 : AV) (x32 : AV) (z33 : List (List AV)) (x34 : AV) (x35 : AV) (x36 : AV) (x37 : AV) : Lp55_0 F n h0 0 h x2 x3 x4 x5 x6 x7 x8 x9 x10 x11 x12 x13 x14 x15 x16 x17 x18 x19 x20 x21 z22 z23 z24 z25 x26 x27 x28 x29 x30 x31 x32 z33 x34 x35 x36 x37 = none := by kernel_rfl
theorem Lp55_0_succ (m : Nat) (h : Heap) (x2 : AV) (x3 : AV) (x4 : AV) (x5 : AV) (x6 : AV) (x7 : AV) (x8 : AV) (x9 : AV) (x10 : AV) (x11 : AV) (x12 : AV) (x13 : AV) (x14 : AV) (x15 : AV) (x16 : AV) (x17 : AV) (x18 : AV) (x19 : AV) (x20 : AV) (x21 : AV) (z22 : List (List AV)) (z23 : List (List AV)) (z24 : List (List AV)) (z25 : List (List AV)) (x26 : AV) (x27 : AV) (x28 : AV) (x29 : AV) (x30 : AV) (x31 : AV) (x32 : AV) (z33 : List (List AV)) (x34 : AV) (x35 : AV) (x36 : AV) (x37 : AV) : Lp55_0 F n h0 (m + 1) h x2 x3 x4 x5 x6 x7 x8 x9 x10 x11 x12 x13 x14 x15 x16 x17 x18 x19 x20 x21 z22 z23 z24 z25 x26 x27 x28 x29 x30 x31 x32 z33 x34 x35 x36 x37 = (lenA E 29 x11).bind fun n38 => (binAV E .lss 3 x37 (.lit (.int .i64 n38))).bind fun r39 => (boolOf r39).bind fun b40 => cond b40 ((indexA 5 x11 x37).bind fun e41 => (partA true 5 0 e41).bind fun v42 => onOut (F 87 [v42, x2, x3] h) (fun a43 h44 => (aggOf a43).bind fun l45 => cond (Nat.beq l45.length 5) (cond (Nat.ble (z33.length + ([[(l45.getD 0 .dead), (l45.getD 1 .dead), (l45.getD 2 .dead), (l45.getD 3 .dead), (l45.getD 4 .dead)]] : List (List AV)).length) maxApp) ((binAV E .add 3 x37 (.lit (.int .i64 1))).bind fun r46 => Lp55_0 F n h0 m h44 x2 x3 x4 x5 x6 x7 x8 x9 x10 x11 x12 x13 x14 x15 x16 x17 x18 x19 x20 x21 z22 z23 z24 z25 x26 x27 x28 x29 x30 x31 x32 (z33 ++ [[(l45.getD 0 .dead), (l45.getD 1 .dead), (l45.getD 2 .dead), (l45.getD 3 .dead), (l45.getD 4 .dead)]]) x34 x35 x36 r46) none) none) (fun _ _ _ => none) (fun _ _ => none)) (Lp55_1 F n h0 n h x2 x3 x4 x5 x6 x7 x8 x9 x10 x11 x12 x13 x14 x15 x16 x17 x18 x19 x20 x21 z22 z23 z24 z25 x26 x27 x28 x29 x30 x31 x32 z33 x34 [] x36 (.lit (.int .i64 0))) := by kernel_rfl
theorem nf55 (a0_ : AV) (a1_ : AV) (a2_ : AV) : runF E 55 Try.f55 F n [a0_, a1_, a2_] h0 = (aggOf a0_).bind fun l1 => cond (Nat.beq l1.length 11) (Lp55_0 F n h0 n h0 a1_ a2_ (l1.getD 0 .dead) (l1.getD 1 .dead) (l1.getD 2 .dead) (l1.getD 3 .dead) (l1.getD 4 .dead) (l1.getD 5 .dead) (l1.getD 6 .dead) (l1.getD 7 .dead) (l1.getD 8 .dead) (l1.getD 9 .dead) (l1.getD 10 .dead) (.lit (.int .i64 0)) (.lit (.int .i64 0)) (.lit (.int .i64 0)) (.lit (.bool false)) (.lit (.string ByteArray.empty)) (.lit (.string ByteArray.empty)) (.lit (.int .i64 0)) [] [] [] [] (l1.getD 0 .dead) (l1.getD 1 .dead) (l1.getD 2 .dead) (l1.getD 3 .dead) (l1.getD 4 .dead) (l1.getD 5 .dead) (l1.getD 6 .dead) [] (l1.getD 8 .dead) (l1.getD 9 .dead) (l1.getD 10 .dead) (.lit (.int .i64 0))) none := by kernel_rfl
-- 96 limbeck/limbeckref04.SameAll
noncomputable def Lp96_0 (m : Nat) (h : Heap) (x5 : AV) (x6 : AV) (x7 : AV) : R := loopAt E 96 Try.f96 F n h0 [.r, .r, .l, .r, .b] m { s := lkS [(0, .c (.v x5)), (1, .c (.v x6)), (5, .c (.v x7))], h := h }
theorem Lp96_0_zero (h : Heap) (x5 : AV) (x6 : AV) (x7 : AV) : Lp96_0 F n h0 0 h x5 x6 x7 = none := by kernel_rfl
theorem Lp96_0_succ (m : Nat) (h : Heap) (x5 : AV) (x6 : AV) (x7 : AV) : Lp96_0 F n h0 (m + 1) h x5 x6 x7 = (lenA E 29 x5).bind fun n8 => (binAV E .lss 3 x7 (.lit (.int .i64 n8))).bind fun r9 => (boolOf r9).bind fun b10 => cond b10 ((lenA E 29 x6).bind fun n11 => (binAV E .lss 3 x7 (.lit (.int .i64 n11))).bind fun r12 => (boolOf r12).bind fun b13 => cond b13 ((indexA 5 x5 x7).bind fun e14 => (partA true 5 0 e14).bind fun v15 => (indexA 5 x6 x7).bind fun e16 => (partA true 5 0 e16).bind fun v17 => onOut (F 23 [v15, v17] h) (fun a18 h19 => (unAV .not a18).bind fun r20 => (boolOf r20).bind fun b21 => cond b21 (some (.ret (.lit (.bool false)), h19)) ((binAV E .add 3 x7 (.lit (.int .i64 1))).bind fun r22 => Lp96_0 F n h0 m h19 x5 x6 r22)) (fun _ _ _ => none) (fun _ _ => none)) (some (.ret (.lit (.bool true)), h))) (some (.ret (.lit (.bool true)), h)) := by kernel_rfl
theorem nf96 (a0_ : AV) (a1_ : AV) : runF E 96 Try.f96 F n [a0_, a1_] h0 = (lenA E 29 a0_).bind fun n1 => (lenA E 29 a1_).bind fun n2 => (binAV E .neq 3 (.lit (.int .i64 n1)) (.lit (.int .i64 n2))).bind fun r3 => (boolOf r3).bind fun b4 => cond b4 (some (.ret (.lit (.bool false)), h0)) (Lp96_0 F n h0 n h0 a0_ a1_ (.lit (.int .i64 0))) := by kernel_rfl
-- 97 limbeck/limbeckref26.SameVals
noncomputable def Lp97_0 (m : Nat) (h : Heap) (x5 : AV) (x6 : AV) (x7 : AV) : R := loopAt E 97 Try.f97 F n h0 [.r, .r, .l, .r, .b] m { s := lkS [(0, .c (.v x5)), (1, .c (.v x6)), (5, .c (.v x7))], h := h }
theorem Lp97_0_zero (h : Heap) (x5 : AV) (x6 : AV) (x7 : AV) : Lp97_0 F n h0 0 h x5 x6 x7 = none := by kernel_rfl
theorem Lp97_0_succ (m : Nat) (h : Heap) (x5 : AV) (x6 : AV) (x7 : AV) : Lp97_0 F n h0 (m + 1) h x5 x6 x7 = (lenA E 55 x5).bind fun n8 => (binAV E .lss 3 x7 (.lit (.int .i64 n8))).bind fun r9 => (boolOf r9).bind fun b10 => cond b10 ((lenA E 55 x6).bind fun n11 => (binAV E .lss 3 x7 (.lit (.int .i64 n11))).bind fun r12 => (boolOf r12).bind fun b13 => cond b13 ((indexA 10 x5 x7).bind fun e14 => (partA true 10 0 e14).bind fun v15 => (indexA 10 x6 x7).bind fun e16 => (partA true 10 0 e16).bind fun v17 => onOut (F 51 [v15, v17] h) (fun a18 h19 => (unAV .not a18).bind fun r20 => (boolOf r20).bind fun b21 => cond b21 (some (.ret (.lit (.bool false)), h19)) ((binAV E .add 3 x7 (.lit (.int .i64 1))).bind fun r22 => Lp97_0 F n h0 m h19 x5 x6 r22)) (fun _ _ _ => none) (fun _ _ => none)) (some (.ret (.lit (.bool true)), h))) (some (.ret (.lit (.bool true)), h)) := by kernel_rfl
theorem nf97 (a0_ : AV) (a1_ : AV) : runF E 97 Try.f97 F n [a0_, a1_] h0 = (lenA E 55 a0_).bind fun n1 => (lenA E 55 a1_).bind fun n2 => (binAV E .neq 3 (.lit (.int .i64 n1)) (.lit (.int .i64 n2))).bind fun r3 => (boolOf r3).bind fun b4 => cond b4 (some (.ret (.lit (.bool false)), h0)) (Lp97_0 F n h0 n h0 a0_ a1_ (.lit (.int .i64 0))) := by kernel_rfl
-- 98 limbeck/core.turned
noncomputable def Lp98_0 (m : Nat) (h : Heap) (x3 : AV) (x4 : AV) (x5 : AV) (x6 : AV) (x7 : AV) (x8 : AV) (x9 : AV) (x10 : AV) (z11 : List (List AV)) (z12 : List (List AV)) (z13 : List (List AV)) (z14 : List (List AV)) (x15 : AV) (x16 : AV) (x17 : AV) (x18 : AV) (x19 : AV) (x20 : AV) (x21 : AV) (x22 : AV) (x23 : AV) (z24 : List (List AV)) (x25 : AV) (x26 : AV) (x27 : AV) (x28 : AV) : R := loopAt E 98 Try.f98 F n h0 [.r, .r, .r, .l, .r, .b] m { s := lkS [(1, .c (.v x3)), (4, .loc [.v x4, .v x5, .v x6, .v x7, .v x8, .v x9, .v x10, .own 5 z11, .own 1 z12, .own 11 z13, .own 10 z14]), (5, .loc [.v x15, .v x16, .v x17, .v x18, .v x19, .v x20, .v x21, .v x22, .v x23, .own 11 z24, .v x25]), (11, .c (.v x26)), (12, .c (.v x27)), (13, .c (.v x28))], h := h }
theorem Lp98_0_zero (h : Heap) (x3 : AV) (x4 : AV) (x5 : AV) (x6 : AV) (x7 : AV) (x8 : AV) (x9 : AV) (x10 : AV) (z11 : List (List AV)) (z12 : List (List AV)) (z13 : List (List AV)) (z14 : List (List AV)) (x15 : AV) (x16 : AV) (x17 : AV) (x18 : AV) (x19 : AV) (x20 : AV) (x21 : AV) (x22 : AV) (x23 : AV) (z24 : List (List AV)) (x25 : AV) (x26 : AV) (x27 : AV) (x28 : AV) : Lp98_0 F n h0 0 h x3 x4 x5 x6 x7 x8 x9 x10 z11 z12 z13 z14 x15 x16 x17 x18 x19 x20 x21 x22 x23 z24 x25 x26 x27 x28 = none := by kernel_rfl
theorem Lp98_0_succ (m : Nat) (h : Heap) (x3 : AV) (x4 : AV) (x5 : AV) (x6 : AV) (x7 : AV) (x8 : AV) (x9 : AV) (x10 : AV) (z11 : List (List AV)) (z12 : List (List AV)) (z13 : List (List AV)) (z14 : List (List AV)) (x15 : AV) (x16 : AV) (x17 : AV) (x18 : AV) (x19 : AV) (x20 : AV) (x21 : AV) (x22 : AV) (x23 : AV) (z24 : List (List AV)) (x25 : AV) (x26 : AV) (x27 : AV) (x28 : AV) : Lp98_0 F n h0 (m + 1) h x3 x4 x5 x6 x7 x8 x9 x10 z11 z12 z13 z14 x15 x16 x17 x18 x19 x20 x21 x22 x23 z24 x25 x26 x27 x28 = (binAV E .lss 3 x28 x27).bind fun r29 => (boolOf r29).bind fun b30 => cond b30 ((indexA 11 x26 x28).bind fun e31 => (partA true 11 0 e31).bind fun v32 => (aggOf v32).bind fun l33 => cond (Nat.beq l33.length 11) (onOut (applyV F x3 [x28, .agg [(l33.getD 0 .dead), (l33.getD 1 .dead), (l33.getD 2 .dead), (l33.getD 3 .dead), (l33.getD 4 .dead), (l33.getD 5 .dead), (l33.getD 6 .dead), (l33.getD 7 .dead), (l33.getD 8 .dead), (l33.getD 9 .dead), (l33.getD 10 .dead)]] h) (fun a34 h35 => (aggOf a34).bind fun l36 => cond (Nat.beq l36.length 11) (cond (Nat.ble (z24.length + ([[(l36.getD 0 .dead), (l36.getD 1 .dead), (l36.getD 2 .dead), (l36.getD 3 .dead), (l36.getD 4 .dead), (l36.getD 5 .dead), (l36.getD 6 .dead), (l36.getD 7 .dead), (l36.getD 8 .dead), (l36.getD 9 .dead), (l36.getD 10 .dead)]] : List (List AV)).length) maxApp) ((binAV E .add 3 x28 (.lit (.int .i64 1))).bind fun r37 => Lp98_0 F n h0 m h35 x3 x4 x5 x6 x7 x8 x9 x10 z11 z12 z13 z14 x15 x16 x17 x18 x19 x20 x21 x22 x23 (z24 ++ [[(l36.getD 0 .dead), (l36.getD 1 .dead), (l36.getD 2 .dead), (l36.getD 3 .dead), (l36.getD 4 .dead), (l36.getD 5 .dead), (l36.getD 6 .dead), (l36.getD 7 .dead), (l36.getD 8 .dead), (l36.getD 9 .dead), (l36.getD 10 .dead)]]) x25 x26 x27 r37) none) none) (fun _ _ _ => none) (fun _ _ => none)) none) (some (.ret (.agg [x15, x16, x17, x18, x19, x20, x21, x22, x23, .sl 11 z24, x25]), h)) := by kernel_rfl
theorem nf98 (a0_ : AV) (a1_ : AV) : runF E 98 Try.f98 F n [a0_, a1_] h0 = (aggOf a0_).bind fun l1 => cond (Nat.beq l1.length 11) ((lenA E 54 (l1.getD 9 .dead)).bind fun n2 => Lp98_0 F n h0 n h0 a1_ (.lit (.int .i64 0)) (.lit (.int .i64 0)) (.lit (.int .i64 0)) (.lit (.bool false)) (.lit (.string ByteArray.empty)) (.lit (.string ByteArray.empty)) (.lit (.int .i64 0)) [] [] [] [] (l1.getD 0 .dead) (l1.getD 1 .dead) (l1.getD 2 .dead) (l1.getD 3 .dead) (l1.getD 4 .dead) (l1.getD 5 .dead) (l1.getD 6 .dead) (l1.getD 7 .dead) (l1.getD 8 .dead) [] (l1.getD 10 .dead) (l1.getD 9 .dead) (.lit (.int .i64 n2)) (.lit (.int .i64 0))) none := by kernel_rfl
-- 99 limbeck/core.Bare$1
theorem nf99 (a0_ : AV) (a1_ : AV) : runF E 99 Try.f99 F n [a0_, a1_] h0 = (aggOf a1_).bind fun l1 => cond (Nat.beq l1.length 11) (onOut (F 46 [.agg [(l1.getD 0 .dead), (l1.getD 1 .dead), (l1.getD 2 .dead), (l1.getD 3 .dead), (l1.getD 4 .dead), (l1.getD 5 .dead), (l1.getD 6 .dead), (l1.getD 7 .dead), (l1.getD 8 .dead), (l1.getD 9 .dead), (l1.getD 10 .dead)]] h0) (fun a2 h3 => (aggOf a2).bind fun l4 => cond (Nat.beq l4.length 11) (some (.ret (.agg [(l4.getD 0 .dead), (l4.getD 1 .dead), (l4.getD 2 .dead), (l4.getD 3 .dead), (l4.getD 4 .dead), (l4.getD 5 .dead), (l4.getD 6 .dead), (l4.getD 7 .dead), (l4.getD 8 .dead), (l4.getD 9 .dead), (l4.getD 10 .dead)]), h3)) none) (fun _ _ _ => none) (fun _ _ => none)) none := by kernel_rfl
-- 100 slices.EqualFunc[[]limbeck/api.Ty,[]limbeck/api.Ty,limbeck/api.Ty,limbeck/api.Ty]
noncomputable def Lp100_0 (m : Nat) (h : Heap) (x6 : AV) (x7 : AV) (x8 : AV) (x9 : AV) (x10 : AV) : R := loopAt E 100 Try.f100 F n h0 [.r, .r, .l, .r, .b] m { s := lkS [(1, .c (.v x6)), (2, .c (.v x7)), (15, .c (.v x8)), (16, .c (.v x9)), (17, .c (.v x10))], h := h }
theorem Lp100_0_zero (h : Heap) (x6 : AV) (x7 : AV) (x8 : AV) (x9 : AV) (x10 : AV) : Lp100_0 F n h0 0 h x6 x7 x8 x9 x10 = none := by kernel_rfl
theorem Lp100_0_succ (m : Nat) (h : Heap) (x6 : AV) (x7 : AV) (x8 : AV) (x9 : AV) (x10 : AV) : Lp100_0 F n h0 (m + 1) h x6 x7 x8 x9 x10 = (binAV E .lss 3 x10 x9).bind fun r11 => (boolOf r11).bind fun b12 => cond b12 ((indexA 5 x8 x10).bind fun e13 => (partA true 5 0 e13).bind fun v14 => (aggOf v14).bind fun l15 => cond (Nat.beq l15.length 5) ((indexA 5 x6 x10).bind fun e16 => (partA true 5 0 e16).bind fun v17 => (aggOf v17).bind fun l18 => cond (Nat.beq l18.length 5) (onOut (applyV F x7 [.agg [(l15.getD 0 .dead), (l15.getD 1 .dead), (l15.getD 2 .dead), (l15.getD 3 .dead), (l15.getD 4 .dead)], .agg [(l18.getD 0 .dead), (l18.getD 1 .dead), (l18.getD 2 .dead), (l18.getD 3 .dead), (l18.getD 4 .dead)]] h) (fun a19 h20 => (unAV .not a19).bind fun r21 => (boolOf r21).bind fun b22 => cond b22 (some (.ret (.lit (.bool false)), h20)) ((binAV E .add 3 x10 (.lit (.int .i64 1))).bind fun r23 => Lp100_0 F n h0 m h20 x6 x7 x8 x9 r23)) (fun _ _ _ => none) (fun _ _ => none)) none) none) (some (.ret (.lit (.bool true)), h)) := by kernel_rfl
theorem nf100 (a0_ : AV) (a1_ : AV) (a2_ : AV) : runF E 100 Try.f100 F n [a0_, a1_, a2_] h0 = (lenA E 29 a0_).bind fun n1 => (lenA E 29 a1_).bind fun n2 => (binAV E .neq 3 (.lit (.int .i64 n1)) (.lit (.int .i64 n2))).bind fun r3 => (boolOf r3).bind fun b4 => cond b4 (some (.ret (.lit (.bool false)), h0)) ((lenA E 29 a0_).bind fun n5 => Lp100_0 F n h0 n h0 a1_ a2_ a0_ (.lit (.int .i64 n5)) (.lit (.int .i64 0))) := by kernel_rfl
-- 101 limbeck/ty.Same
theorem nf101 (a0_ : AV) (a1_ : AV) : runF E 101 Try.f101 F n [a0_, a1_] h0 = (aggOf a0_).bind fun l1 => cond (Nat.beq l1.length 5) ((aggOf a1_).bind fun l2 => cond (Nat.beq l2.length 5) ((binAV E .eql 3 (l1.getD 0 .dead) (l2.getD 0 .dead)).bind fun r3 => (boolOf r3).bind fun b4 => cond b4 ((binAV E .eql 3 (l1.getD 1 .dead) (l2.getD 1 .dead)).bind fun r5 => (boolOf r5).bind fun b6 => cond b6 ((binAV E .eql 9 (l1.getD 2 .dead) (l2.getD 2 .dead)).bind fun r7 => (boolOf r7).bind fun b8 => cond b8 (onOut (F 102 [(l1.getD 3 .dead), (l2.getD 3 .dead)] h0) (fun a9 h10 => (boolOf a9).bind fun b11 => cond b11 (onOut (F 100 [(l1.getD 4 .dead), (l2.getD 4 .dead), .fn 101 [] []] h10) (fun a12 h13 => some (.ret a12, h13)) (fun _ _ _ => none) (fun _ _ => none)) (some (.ret (.lit (.bool false)), h10))) (fun _ _ _ => none) (fun _ _ => none)) (some (.ret (.lit (.bool false)), h0))) (some (.ret (.lit (.bool false)), h0))) (some (.ret (.lit (.bool false)), h0))) none) none := by kernel_rfl
-- 102 slices.Equal[[]string,string]
noncomputable def Lp102_0 (m : Nat) (h : Heap) (x6 : AV) (x7 : AV) (x8 : AV) (x9 : AV) : R := loopAt E 102 Try.f102 F n h0 [.r, .r, .l, .r, .b] m { s := lkS [(0, .c (.v x6)), (1, .c (.v x7)), (12, .c (.v x8)), (13, .c (.v x9))], h := h }
theorem Lp102_0_zero (h : Heap) (x6 : AV) (x7 : AV) (x8 : AV) (x9 : AV) : Lp102_0 F n h0 0 h x6 x7 x8 x9 = none := by kernel_rfl
theorem Lp102_0_succ (m : Nat) (h : Heap) (x6 : AV) (x7 : AV) (x8 : AV) (x9 : AV) : Lp102_0 F n h0 (m + 1) h x6 x7 x8 x9 = (binAV E .lss 3 x9 x8).bind fun r10 => (boolOf r10).bind fun b11 => cond b11 ((indexA 1 x6 x9).bind fun e12 => (partA false 1 0 e12).bind fun v13 => (indexA 1 x7 x9).bind fun e14 => (partA false 1 0 e14).bind fun v15 => (binAV E .neq 9 v13 v15).bind fun r16 => (boolOf r16).bind fun b17 => cond b17 (some (.ret (.lit (.bool false)), h)) ((binAV E .add 3 x9 (.lit (.int .i64 1))).bind fun r18 => Lp102_0 F n h0 m h x6 x7 x8 r18)) (some (.ret (.lit (.bool true)), h)) := by kernel_rfl
theorem nf102 (a0_ : AV) (a1_ : AV) : runF E 102 Try.f102 F n [a0_, a1_] h0 = (lenA E 31 a0_).bind fun n1 => (lenA E 31 a1_).bind fun n2 => (binAV E .neq 3 (.lit (.int .i64 n1)) (.lit (.int .i64 n2))).bind fun r3 => (boolOf r3).bind fun b4 => cond b4 (some (.ret (.lit (.bool false)), h0)) ((lenA E 31 a0_).bind fun n5 => Lp102_0 F n h0 n h0 a0_ a1_ (.lit (.int .i64 n5)) (.lit (.int .i64 0))) := by kernel_rfl
-- 103 slices.EqualFunc[[]limbeck/api.Val,[]limbeck/api.Val,limbeck/api.Val,limbeck/api.Val]
noncomputable def Lp103_0 (m : Nat) (h : Heap) (x6 : AV) (x7 : AV) (x8 : AV) (x9 : AV) (x10 : AV) : R := loopAt E 103 Try.f103 F n h0 [.r, .r, .l, .r, .b] m { s := lkS [(1, .c (.v x6)), (2, .c (.v x7)), (15, .c (.v x8)), (16, .c (.v x9)), (17, .c (.v x10))], h := h }
theorem Lp103_0_zero (h : Heap) (x6 : AV) (x7 : AV) (x8 : AV) (x9 : AV) (x10 : AV) : Lp103_0 F n h0 0 h x6 x7 x8 x9 x10 = none := by kernel_rfl
theorem Lp103_0_succ (m : Nat) (h : Heap) (x6 : AV) (x7 : AV) (x8 : AV) (x9 : AV) (x10 : AV) : Lp103_0 F n h0 (m + 1) h x6 x7 x8 x9 x10 = (binAV E .lss 3 x10 x9).bind fun r11 => (boolOf r11).bind fun b12 => cond b12 ((indexA 10 x8 x10).bind fun e13 => (partA true 10 0 e13).bind fun v14 => (aggOf v14).bind fun l15 => cond (Nat.beq l15.length 10) ((indexA 10 x6 x10).bind fun e16 => (partA true 10 0 e16).bind fun v17 => (aggOf v17).bind fun l18 => cond (Nat.beq l18.length 10) (onOut (applyV F x7 [.agg [(l15.getD 0 .dead), (l15.getD 1 .dead), (l15.getD 2 .dead), (l15.getD 3 .dead), (l15.getD 4 .dead), (l15.getD 5 .dead), (l15.getD 6 .dead), (l15.getD 7 .dead), (l15.getD 8 .dead), (l15.getD 9 .dead)], .agg [(l18.getD 0 .dead), (l18.getD 1 .dead), (l18.getD 2 .dead), (l18.getD 3 .dead), (l18.getD 4 .dead), (l18.getD 5 .dead), (l18.getD 6 .dead), (l18.getD 7 .dead), (l18.getD 8 .dead), (l18.getD 9 .dead)]] h) (fun a19 h20 => (unAV .not a19).bind fun r21 => (boolOf r21).bind fun b22 => cond b22 (some (.ret (.lit (.bool false)), h20)) ((binAV E .add 3 x10 (.lit (.int .i64 1))).bind fun r23 => Lp103_0 F n h0 m h20 x6 x7 x8 x9 r23)) (fun _ _ _ => none) (fun _ _ => none)) none) none) (some (.ret (.lit (.bool true)), h)) := by kernel_rfl
theorem nf103 (a0_ : AV) (a1_ : AV) (a2_ : AV) : runF E 103 Try.f103 F n [a0_, a1_, a2_] h0 = (lenA E 55 a0_).bind fun n1 => (lenA E 55 a1_).bind fun n2 => (binAV E .neq 3 (.lit (.int .i64 n1)) (.lit (.int .i64 n2))).bind fun r3 => (boolOf r3).bind fun b4 => cond b4 (some (.ret (.lit (.bool false)), h0)) ((lenA E 55 a0_).bind fun n5 => Lp103_0 F n h0 n h0 a1_ a2_ a0_ (.lit (.int .i64 n5)) (.lit (.int .i64 0))) := by kernel_rfl
-- 104 slices.EqualFunc[[]limbeck/api.Core,[]limbeck/api.Core,limbeck/api.Core,limbeck/api.Core]
noncomputable def Lp104_0 (m : Nat) (h : Heap) (x6 : AV) (x7 : AV) (x8 : AV) (x9 : AV) (x10 : AV) : R := loopAt E 104 Try.f104 F n h0 [.r, .r, .l, .r, .b] m { s := lkS [(1, .c (.v x6)), (2, .c (.v x7)), (15, .c (.v x8)), (16, .c (.v x9)), (17, .c (.v x10))], h := h }
theorem Lp104_0_zero (h : Heap) (x6 : AV) (x7 : AV) (x8 : AV) (x9 : AV) (x10 : AV) : Lp104_0 F n h0 0 h x6 x7 x8 x9 x10 = none := by kernel_rfl
theorem Lp104_0_succ (m : Nat) (h : Heap) (x6 : AV) (x7 : AV) (x8 : AV) (x9 : AV) (x10 : AV) : Lp104_0 F n h0 (m + 1) h x6 x7 x8 x9 x10 = (binAV E .lss 3 x10 x9).bind fun r11 => (boolOf r11).bind fun b12 => cond b12 ((indexA 11 x8 x10).bind fun e13 => (partA true 11 0 e13).bind fun v14 => (aggOf v14).bind fun l15 => cond (Nat.beq l15.length 11) ((indexA 11 x6 x10).bind fun e16 => (partA true 11 0 e16).bind fun v17 => (aggOf v17).bind fun l18 => cond (Nat.beq l18.length 11) (onOut (applyV F x7 [.agg [(l15.getD 0 .dead), (l15.getD 1 .dead), (l15.getD 2 .dead), (l15.getD 3 .dead), (l15.getD 4 .dead), (l15.getD 5 .dead), (l15.getD 6 .dead), (l15.getD 7 .dead), (l15.getD 8 .dead), (l15.getD 9 .dead), (l15.getD 10 .dead)], .agg [(l18.getD 0 .dead), (l18.getD 1 .dead), (l18.getD 2 .dead), (l18.getD 3 .dead), (l18.getD 4 .dead), (l18.getD 5 .dead), (l18.getD 6 .dead), (l18.getD 7 .dead), (l18.getD 8 .dead), (l18.getD 9 .dead), (l18.getD 10 .dead)]] h) (fun a19 h20 => (unAV .not a19).bind fun r21 => (boolOf r21).bind fun b22 => cond b22 (some (.ret (.lit (.bool false)), h20)) ((binAV E .add 3 x10 (.lit (.int .i64 1))).bind fun r23 => Lp104_0 F n h0 m h20 x6 x7 x8 x9 r23)) (fun _ _ _ => none) (fun _ _ => none)) none) none) (some (.ret (.lit (.bool true)), h)) := by kernel_rfl
theorem nf104 (a0_ : AV) (a1_ : AV) (a2_ : AV) : runF E 104 Try.f104 F n [a0_, a1_, a2_] h0 = (lenA E 54 a0_).bind fun n1 => (lenA E 54 a1_).bind fun n2 => (binAV E .neq 3 (.lit (.int .i64 n1)) (.lit (.int .i64 n2))).bind fun r3 => (boolOf r3).bind fun b4 => cond b4 (some (.ret (.lit (.bool false)), h0)) ((lenA E 54 a0_).bind fun n5 => Lp104_0 F n h0 n h0 a1_ a2_ a0_ (.lit (.int .i64 n5)) (.lit (.int .i64 0))) := by kernel_rfl
-- 105 limbeck/core.Put$1
theorem nf105 (a0_ : AV) (a1_ : AV) (i2_ : Nat) (i3_ : Nat) (i4_ : Nat) : runF E 105 Try.f105 F n [a0_, a1_, .hp i2_ 0, .hp i3_ 0, .hp i4_ 0] h0 = (aggOf a1_).bind fun l1 => cond (Nat.beq l1.length 11) ((hpart false 1 4 i2_ h0).bind fun v2 => (hpart false 1 0 i3_ h0).bind fun v3 => (binAV E .eql 9 v2 v3).bind fun r4 => (boolOf r4).bind fun b5 => cond b5 ((hpart false 1 0 i2_ h0).bind fun v6 => (binAV E .eql 3 v6 (.lit (.int .i64 7))).bind fun r7 => (boolOf r7).bind fun b8 => cond b8 (some (.ret (.agg [(l1.getD 0 .dead), (l1.getD 1 .dead), (l1.getD 2 .dead), (l1.getD 3 .dead), (l1.getD 4 .dead), (l1.getD 5 .dead), (l1.getD 6 .dead), (l1.getD 7 .dead), (l1.getD 8 .dead), (l1.getD 9 .dead), (l1.getD 10 .dead)]), h0)) ((hpart false 1 0 i2_ h0).bind fun v9 => (binAV E .eql 3 v9 (.lit (.int .i64 5))).bind fun r10 => (boolOf r10).bind fun b11 => cond b11 ((binAV E .eql 3 a0_ (.lit (.int .i64 1))).bind fun r12 => (boolOf r12).bind fun b13 => cond b13 (some (.ret (.agg [(l1.getD 0 .dead), (l1.getD 1 .dead), (l1.getD 2 .dead), (l1.getD 3 .dead), (l1.getD 4 .dead), (l1.getD 5 .dead), (l1.getD 6 .dead), (l1.getD 7 .dead), (l1.getD 8 .dead), (l1.getD 9 .dead), (l1.getD 10 .dead)]), h0)) ((hpart false 1 0 i3_ h0).bind fun v14 => (hpart true 10 0 i4_ h0).bind fun v15 => onOut (F 52 [.agg [(l1.getD 0 .dead), (l1.getD 1 .dead), (l1.getD 2 .dead), (l1.getD 3 .dead), (l1.getD 4 .dead), (l1.getD 5 .dead), (l1.getD 6 .dead), (l1.getD 7 .dead), (l1.getD 8 .dead), (l1.getD 9 .dead), (l1.getD 10 .dead)], v14, v15] h0) (fun a16 h17 => (aggOf a16).bind fun l18 => cond (Nat.beq l18.length 11) (some (.ret (.agg [(l18.getD 0 .dead), (l18.getD 1 .dead), (l18.getD 2 .dead), (l18.getD 3 .dead), (l18.getD 4 .dead), (l18.getD 5 .dead), (l18.getD 6 .dead), (l18.getD 7 .dead), (l18.getD 8 .dead), (l18.getD 9 .dead), (l18.getD 10 .dead)]), h17)) none) (fun _ _ _ => none) (fun _ _ => none))) ((hpart false 1 0 i3_ h0).bind fun v19 => (hpart true 10 0 i4_ h0).bind fun v20 => onOut (F 52 [.agg [(l1.getD 0 .dead), (l1.getD 1 .dead), (l1.getD 2 .dead), (l1.getD 3 .dead), (l1.getD 4 .dead), (l1.getD 5 .dead), (l1.getD 6 .dead), (l1.getD 7 .dead), (l1.getD 8 .dead), (l1.getD 9 .dead), (l1.getD 10 .dead)], v19, v20] h0) (fun a21 h22 => (aggOf a21).bind fun l23 => cond (Nat.beq l23.length 11) (some (.ret (.agg [(l23.getD 0 .dead), (l23.getD 1 .dead), (l23.getD 2 .dead), (l23.getD 3 .dead), (l23.getD 4 .dead), (l23.getD 5 .dead), (l23.getD 6 .dead), (l23.getD 7 .dead), (l23.getD 8 .dead), (l23.getD 9 .dead), (l23.getD 10 .dead)]), h22)) none) (fun _ _ _ => none) (fun _ _ => none)))) ((hpart false 1 0 i3_ h0).bind fun v24 => (hpart true 10 0 i4_ h0).bind fun v25 => onOut (F 52 [.agg [(l1.getD 0 .dead), (l1.getD 1 .dead), (l1.getD 2 .dead), (l1.getD 3 .dead), (l1.getD 4 .dead), (l1.getD 5 .dead), (l1.getD 6 .dead), (l1.getD 7 .dead), (l1.getD 8 .dead), (l1.getD 9 .dead), (l1.getD 10 .dead)], v24, v25] h0) (fun a26 h27 => (aggOf a26).bind fun l28 => cond (Nat.beq l28.length 11) (some (.ret (.agg [(l28.getD 0 .dead), (l28.getD 1 .dead), (l28.getD 2 .dead), (l28.getD 3 .dead), (l28.getD 4 .dead), (l28.getD 5 .dead), (l28.getD 6 .dead), (l28.getD 7 .dead), (l28.getD 8 .dead), (l28.getD 9 .dead), (l28.getD 10 .dead)]), h27)) none) (fun _ _ _ => none) (fun _ _ => none))) none := by kernel_rfl
-- 106 limbeck/core.Seal$1
theorem nf106 (a0_ : AV) (a1_ : AV) (i2_ : Nat) (i3_ : Nat) : runF E 106 Try.f106 F n [a0_, a1_, .hp i2_ 0, .hp i3_ 0] h0 = (aggOf a1_).bind fun l1 => cond (Nat.beq l1.length 11) ((hpart false 1 0 i2_ h0).bind fun v2 => (hpart false 1 0 i3_ h0).bind fun v3 => onOut (F 54 [.agg [(l1.getD 0 .dead), (l1.getD 1 .dead), (l1.getD 2 .dead), (l1.getD 3 .dead), (l1.getD 4 .dead), (l1.getD 5 .dead), (l1.getD 6 .dead), (l1.getD 7 .dead), (l1.getD 8 .dead), (l1.getD 9 .dead), (l1.getD 10 .dead)], v2, v3] h0) (fun a4 h5 => (aggOf a4).bind fun l6 => cond (Nat.beq l6.length 11) (some (.ret (.agg [(l6.getD 0 .dead), (l6.getD 1 .dead), (l6.getD 2 .dead), (l6.getD 3 .dead), (l6.getD 4 .dead), (l6.getD 5 .dead), (l6.getD 6 .dead), (l6.getD 7 .dead), (l6.getD 8 .dead), (l6.getD 9 .dead), (l6.getD 10 .dead)]), h5)) none) (fun _ _ _ => none) (fun _ _ => none)) none := by kernel_rfl
end
end Go.Sh.T

/- Values and terms as plain data. -/
namespace Go.Sh.T
open Go Go.Sh
set_option linter.unusedSimpArgs false
set_option linter.unusedVariables false

structure Val where
  k : Int
  n : Int
  m : Int
  inn : Bool
  s : ByteArray
  df : ByteArray
  nd : Int
  types : List Ty
  labels : List ByteArray
  kids : List Val
structure Core where
  k : Int
  n : Int
  m : Int
  inn : Bool
  name : ByteArray
  df : ByteArray
  nd : Int
  types : List Ty
  labels : List ByteArray
  kids : List Core
  vals : List Val

mutual
def Val.cells : Val → List AV
  | ⟨k, n, m, b, s, d, e, ts, ls, xs⟩ => [.lit (.int .i64 k), .lit (.int .i64 n), .lit (.int .i64 m), .lit (.bool b), .lit (.string s), .lit (.string d), .lit (.int .i64 e), .sl 5 (ts.map Ty.cells), .sl 1 (ls.map strC), .sl 10 (Val.cellsL xs)]
def Val.cellsL : List Val → List (List AV)
  | [] => []
  | t :: r => t.cells :: Val.cellsL r
end
theorem Val.cellsL_map : ∀ l : List Val, Val.cellsL l = l.map Val.cells
  | [] => rfl
  | t :: r => by rw [Val.cellsL, Val.cellsL_map r]; rfl
theorem Val.cells_eq (t : Val) : t.cells = [.lit (.int .i64 t.k), .lit (.int .i64 t.n), .lit (.int .i64 t.m), .lit (.bool t.inn), .lit (.string t.s), .lit (.string t.df), .lit (.int .i64 t.nd), .sl 5 (t.types.map Ty.cells), .sl 1 (t.labels.map strC), .sl 10 (t.kids.map Val.cells)] := by
  cases t; rw [Val.cells, Val.cellsL_map]
mutual
def Core.cells : Core → List AV
  | ⟨k, n, m, b, s, d, e, ts, ls, xs, vs⟩ => [.lit (.int .i64 k), .lit (.int .i64 n), .lit (.int .i64 m), .lit (.bool b), .lit (.string s), .lit (.string d), .lit (.int .i64 e), .sl 5 (ts.map Ty.cells), .sl 1 (ls.map strC), .sl 11 (Core.cellsL xs), .sl 10 (vs.map Val.cells)]
def Core.cellsL : List Core → List (List AV)
  | [] => []
  | t :: r => t.cells :: Core.cellsL r
end
theorem Core.cellsL_map : ∀ l : List Core, Core.cellsL l = l.map Core.cells
  | [] => rfl
  | t :: r => by rw [Core.cellsL, Core.cellsL_map r]; rfl
theorem Core.cells_eq (t : Core) : t.cells = [.lit (.int .i64 t.k), .lit (.int .i64 t.n), .lit (.int .i64 t.m), .lit (.bool t.inn), .lit (.string t.name), .lit (.string t.df), .lit (.int .i64 t.nd), .sl 5 (t.types.map Ty.cells), .sl 1 (t.labels.map strC), .sl 11 (t.kids.map Core.cells), .sl 10 (t.vals.map Val.cells)] := by
  cases t; rw [Core.cells, Core.cellsL_map]

@[simp] theorem Val.cells_len (t : Val) : t.cells.length = 10 := by rw [Val.cells_eq]; rfl
@[simp] theorem Val.c0 (t : Val) : t.cells.getD 0 .dead = .lit (.int .i64 t.k) := by rw [Val.cells_eq]; rfl
@[simp] theorem Val.c1 (t : Val) : t.cells.getD 1 .dead = .lit (.int .i64 t.n) := by rw [Val.cells_eq]; rfl
@[simp] theorem Val.c2 (t : Val) : t.cells.getD 2 .dead = .lit (.int .i64 t.m) := by rw [Val.cells_eq]; rfl
@[simp] theorem Val.c3 (t : Val) : t.cells.getD 3 .dead = .lit (.bool t.inn) := by rw [Val.cells_eq]; rfl
@[simp] theorem Val.c4 (t : Val) : t.cells.getD 4 .dead = .lit (.string t.s) := by rw [Val.cells_eq]; rfl
@[simp] theorem Val.c5 (t : Val) : t.cells.getD 5 .dead = .lit (.string t.df) := by rw [Val.cells_eq]; rfl
@[simp] theorem Val.c6 (t : Val) : t.cells.getD 6 .dead = .lit (.int .i64 t.nd) := by rw [Val.cells_eq]; rfl
@[simp] theorem Val.c7 (t : Val) : t.cells.getD 7 .dead = .sl 5 (t.types.map Ty.cells) := by rw [Val.cells_eq]; rfl
@[simp] theorem Val.c8 (t : Val) : t.cells.getD 8 .dead = .sl 1 (t.labels.map strC) := by rw [Val.cells_eq]; rfl
@[simp] theorem Val.c9 (t : Val) : t.cells.getD 9 .dead = .sl 10 (t.kids.map Val.cells) := by rw [Val.cells_eq]; rfl
theorem Val.re (t : Val) : [t.cells.getD 0 .dead, t.cells.getD 1 .dead, t.cells.getD 2 .dead, t.cells.getD 3 .dead, t.cells.getD 4 .dead, t.cells.getD 5 .dead, t.cells.getD 6 .dead, t.cells.getD 7 .dead, t.cells.getD 8 .dead, t.cells.getD 9 .dead] = t.cells := by
  rw [Val.cells_eq]; rfl
@[simp] theorem Core.cells_len (t : Core) : t.cells.length = 11 := by rw [Core.cells_eq]; rfl
@[simp] theorem Core.c0 (t : Core) : t.cells.getD 0 .dead = .lit (.int .i64 t.k) := by rw [Core.cells_eq]; rfl
@[simp] theorem Core.c1 (t : Core) : t.cells.getD 1 .dead = .lit (.int .i64 t.n) := by rw [Core.cells_eq]; rfl
@[simp] theorem Core.c2 (t : Core) : t.cells.getD 2 .dead = .lit (.int .i64 t.m) := by rw [Core.cells_eq]; rfl
@[simp] theorem Core.c3 (t : Core) : t.cells.getD 3 .dead = .lit (.bool t.inn) := by rw [Core.cells_eq]; rfl
@[simp] theorem Core.c4 (t : Core) : t.cells.getD 4 .dead = .lit (.string t.name) := by rw [Core.cells_eq]; rfl
@[simp] theorem Core.c5 (t : Core) : t.cells.getD 5 .dead = .lit (.string t.df) := by rw [Core.cells_eq]; rfl
@[simp] theorem Core.c6 (t : Core) : t.cells.getD 6 .dead = .lit (.int .i64 t.nd) := by rw [Core.cells_eq]; rfl
@[simp] theorem Core.c7 (t : Core) : t.cells.getD 7 .dead = .sl 5 (t.types.map Ty.cells) := by rw [Core.cells_eq]; rfl
@[simp] theorem Core.c8 (t : Core) : t.cells.getD 8 .dead = .sl 1 (t.labels.map strC) := by rw [Core.cells_eq]; rfl
@[simp] theorem Core.c9 (t : Core) : t.cells.getD 9 .dead = .sl 11 (t.kids.map Core.cells) := by rw [Core.cells_eq]; rfl
@[simp] theorem Core.c10 (t : Core) : t.cells.getD 10 .dead = .sl 10 (t.vals.map Val.cells) := by rw [Core.cells_eq]; rfl
theorem Core.re (t : Core) : [t.cells.getD 0 .dead, t.cells.getD 1 .dead, t.cells.getD 2 .dead, t.cells.getD 3 .dead, t.cells.getD 4 .dead, t.cells.getD 5 .dead, t.cells.getD 6 .dead, t.cells.getD 7 .dead, t.cells.getD 8 .dead, t.cells.getD 9 .dead, t.cells.getD 10 .dead] = t.cells := by
  rw [Core.cells_eq]; rfl

inductive Val.Ok : Val → Prop
  | mk {t : Val} (hk : (Lit.int .i64 t.k).wf = true) (hn : (Lit.int .i64 t.n).wf = true) (hm : (Lit.int .i64 t.m).wf = true) (he : (Lit.int .i64 t.nd).wf = true) (hs : t.s.size ≤ maxLen) (hd : t.df.size ≤ maxLen) (htl : t.types.length ≤ maxLen) (hts : ∀ a ∈ t.types, a.Ok) (hl : t.labels.length ≤ maxLen) (hls : ∀ s ∈ t.labels, s.size ≤ maxLen) (ha : t.kids.length ≤ maxLen) (has : ∀ a ∈ t.kids, a.Ok) : t.Ok
inductive Core.Ok : Core → Prop
  | mk {t : Core} (hk : (Lit.int .i64 t.k).wf = true) (hn : (Lit.int .i64 t.n).wf = true) (hm : (Lit.int .i64 t.m).wf = true) (he : (Lit.int .i64 t.nd).wf = true) (hs : t.name.size ≤ maxLen) (hd : t.df.size ≤ maxLen) (htl : t.types.length ≤ maxLen) (hts : ∀ a ∈ t.types, a.Ok) (hl : t.labels.length ≤ maxLen) (hls : ∀ s ∈ t.labels, s.size ≤ maxLen) (ha : t.kids.length ≤ maxLen) (has : ∀ a ∈ t.kids, a.Ok) (hv : t.vals.length ≤ maxLen) (hvs : ∀ a ∈ t.vals, a.Ok) : t.Ok
theorem Val.Ok.len {t : Val} (h : t.Ok) : t.kids.length ≤ maxLen := by cases h with | mk _ _ _ _ _ _ _ _ _ _ ha _ => exact ha
theorem Val.Ok.kid {t : Val} (h : t.Ok) {a : Val} (ha : a ∈ t.kids) : a.Ok := by cases h with | mk _ _ _ _ _ _ _ _ _ _ _ has => exact has a ha
theorem Val.Ok.tlen {t : Val} (h : t.Ok) : t.types.length ≤ maxLen := by cases h with | mk _ _ _ _ _ _ ha _ _ _ _ _ => exact ha
theorem Val.Ok.ty {t : Val} (h : t.Ok) {a : Ty} (ha : a ∈ t.types) : a.Ok := by cases h with | mk _ _ _ _ _ _ _ has _ _ _ _ => exact has a ha
theorem Val.Ok.lab {t : Val} (h : t.Ok) : t.labels.length ≤ maxLen := by cases h with | mk _ _ _ _ _ _ _ _ ha _ _ _ => exact ha
theorem Val.Ok.str {t : Val} (h : t.Ok) : t.s.size ≤ maxLen := by cases h with | mk _ _ _ _ hs _ _ _ _ _ _ _ => exact hs
theorem Val.Ok.def {t : Val} (h : t.Ok) : t.df.size ≤ maxLen := by cases h with | mk _ _ _ _ _ hs _ _ _ _ _ _ => exact hs
theorem Core.Ok.len {t : Core} (h : t.Ok) : t.kids.length ≤ maxLen := by cases h with | mk _ _ _ _ _ _ _ _ _ _ ha _ _ _ => exact ha
theorem Core.Ok.kid {t : Core} (h : t.Ok) {a : Core} (ha : a ∈ t.kids) : a.Ok := by cases h with | mk _ _ _ _ _ _ _ _ _ _ _ has _ _ => exact has a ha
theorem Core.Ok.tlen {t : Core} (h : t.Ok) : t.types.length ≤ maxLen := by cases h with | mk _ _ _ _ _ _ ha _ _ _ _ _ _ _ => exact ha
theorem Core.Ok.ty {t : Core} (h : t.Ok) {a : Ty} (ha : a ∈ t.types) : a.Ok := by cases h with | mk _ _ _ _ _ _ _ has _ _ _ _ _ _ => exact has a ha
theorem Core.Ok.lab {t : Core} (h : t.Ok) : t.labels.length ≤ maxLen := by cases h with | mk _ _ _ _ _ _ _ _ ha _ _ _ _ _ => exact ha
theorem Core.Ok.str {t : Core} (h : t.Ok) : t.name.size ≤ maxLen := by cases h with | mk _ _ _ _ hs _ _ _ _ _ _ _ _ _ => exact hs
theorem Core.Ok.def {t : Core} (h : t.Ok) : t.df.size ≤ maxLen := by cases h with | mk _ _ _ _ _ hs _ _ _ _ _ _ _ _ => exact hs
theorem Core.Ok.vlen {t : Core} (h : t.Ok) : t.vals.length ≤ maxLen := by cases h with | mk _ _ _ _ _ _ _ _ _ _ _ _ ha _ => exact ha
theorem Core.Ok.val {t : Core} (h : t.Ok) {a : Val} (ha : a ∈ t.vals) : a.Ok := by cases h with | mk _ _ _ _ _ _ _ _ _ _ _ _ _ has => exact has a ha

theorem Val.size_kid {t : Val} {i : Nat} (hi : i < t.kids.length) : SizeOf.sizeOf t.kids[i] < SizeOf.sizeOf t := by
  have := List.sizeOf_lt_of_mem (List.getElem_mem hi)
  cases t; simp only [Val.mk.sizeOf_spec] at *; omega
theorem Core.size_kid {t : Core} {i : Nat} (hi : i < t.kids.length) : SizeOf.sizeOf t.kids[i] < SizeOf.sizeOf t := by
  have := List.sizeOf_lt_of_mem (List.getElem_mem hi)
  cases t; simp only [Core.mk.sizeOf_spec] at *; omega

/- strings: the same bytes, the same string -/
theorem toList_loop (s : ByteArray) : ∀ (m i : Nat) (r : List UInt8), s.size ≤ m + i → ByteArray.toList.loop s i r = r.reverse ++ s.data.toList.drop i
  | 0, i, r, h => by
    unfold ByteArray.toList.loop
    rw [if_neg (by omega), List.drop_of_length_le (show s.size ≤ i by omega), List.append_nil]
  | m + 1, i, r, h => by
    unfold ByteArray.toList.loop
    split
    · rename_i hi
      have hi' : i < s.data.toList.length := hi
      have e : s.get! i = s.data.toList[i]'hi' := by
        show s.data[i]! = _
        rw [getElem!_pos s.data i hi]; rfl
      rw [toList_loop s m (i + 1) _ (by omega), List.drop_eq_getElem_cons hi', e, List.reverse_cons, List.append_assoc]; rfl
    · rename_i hi
      rw [List.drop_of_length_le (show s.size ≤ i by omega), List.append_nil]
theorem toList_data (s : ByteArray) : s.toList = s.data.toList := by
  unfold ByteArray.toList
  rw [toList_loop s s.size 0 [] (by omega)]; rfl
theorem strEq_iff {a b : ByteArray} : strEq a b = true ↔ a = b := by
  unfold strEq
  rw [beq_iff_eq, toList_data, toList_data]
  constructor
  · intro h
    cases a; cases b
    rename_i x y
    cases x; cases y
    have h : (_ : List UInt8) = _ := h
    exact congrArg (fun l => ByteArray.mk (Array.mk l)) h
  · rintro rfl; rfl

/- the same types -/
theorem sameS_iff : ∀ (l m : List ByteArray), (decide (l.length = m.length) && sameS l m) = true ↔ l = m
  | [], [] => by simp [sameS]
  | [], y :: m => by simp
  | x :: l, [] => by simp
  | x :: l, y :: m => by
    have := sameS_iff l m
    rw [Bool.and_eq_true, decide_eq_true_iff] at this
    rw [Bool.and_eq_true, decide_eq_true_iff, sameS, Bool.and_eq_true, strEq_iff, List.cons.injEq, ← this]
    simp only [List.length_cons, Nat.add_right_cancel_iff]
    exact ⟨fun ⟨a, b, c⟩ => ⟨b, a, c⟩, fun ⟨b, a, c⟩ => ⟨a, b, c⟩⟩
mutual
theorem Ty.same_iff : ∀ t u : Ty, t.same u = true ↔ t = u
  | ⟨k, n, s, ls, xs⟩, ⟨k', n', s', ls', xs'⟩ => by
    have h1 := Ty.sameL_iff xs xs'
    have h2 := sameS_iff ls ls'
    rw [Ty.same]
    simp only [Bool.and_eq_true, decide_eq_true_iff, strEq_iff, Ty.mk.injEq, Bool.not_eq_true', bne_eq_false_iff_eq] at *
    rw [← h1, ← h2]
    constructor
    · rintro ⟨⟨⟨⟨⟨a, b⟩, c⟩, d⟩, e⟩, f⟩; exact ⟨a, b, c, d, e, f⟩
    · rintro ⟨a, b, c, d, e, f⟩; exact ⟨⟨⟨⟨⟨a, b⟩, c⟩, d⟩, e⟩, f⟩
theorem Ty.sameL_iff : ∀ l m : List Ty, (decide (l.length = m.length) && Ty.sameL l m) = true ↔ l = m
  | [], [] => by simp [Ty.sameL]
  | [], y :: m => by simp
  | x :: l, [] => by simp
  | x :: l, y :: m => by
    have h1 := Ty.same_iff x y
    have h2 := Ty.sameL_iff l m
    rw [Bool.and_eq_true, decide_eq_true_iff] at h2
    rw [Bool.and_eq_true, decide_eq_true_iff, Ty.sameL, Bool.and_eq_true, h1, List.cons.injEq, ← h2]
    simp only [List.length_cons, Nat.add_right_cancel_iff]
    exact ⟨fun ⟨a, b, c⟩ => ⟨b, a, c⟩, fun ⟨b, a, c⟩ => ⟨a, b, c⟩⟩
end

/-- Are they the same: the law's question. -/
noncomputable def eqd {α : Type} (a b : α) : Bool := @decide (a = b) (Classical.propDecidable _)
theorem eqd_iff {α : Type} {a b : α} : eqd a b = true ↔ a = b := by unfold eqd; exact @decide_eq_true_iff _ (Classical.propDecidable _)
theorem eqd_self {α : Type} (a : α) : eqd a a = true := eqd_iff.2 rfl
theorem eqd_f {α : Type} {a b : α} (h : a ≠ b) : eqd a b = false := by
  cases e : eqd a b with
  | false => rfl
  | true => exact absurd (eqd_iff.1 e) h
theorem Ty.same_eqd (t u : Ty) : t.same u = eqd t u := by rw [Bool.eq_iff_iff, Ty.same_iff, eqd_iff]
theorem strEq_eqd (a b : ByteArray) : strEq a b = eqd a b := by rw [Bool.eq_iff_iff, strEq_iff, eqd_iff]
theorem int_eqd (a b : Int) : (a == b) = eqd a b := by rw [Bool.eq_iff_iff, beq_iff_eq, eqd_iff]
theorem bool_eqd (a b : Bool) : (a == b) = eqd a b := by rw [Bool.eq_iff_iff, beq_iff_eq, eqd_iff]
theorem sameS_eqd (l m : List ByteArray) : (decide (l.length = m.length) && sameS l m) = eqd l m := by rw [Bool.eq_iff_iff, sameS_iff, eqd_iff]
theorem eqd_nil_nil {α : Type} : eqd ([] : List α) [] = true := eqd_self _
theorem eqd_cons {α : Type} (a b : α) (l m : List α) : eqd (a :: l) (b :: m) = (eqd a b && eqd l m) := by
  rw [Bool.eq_iff_iff, Bool.and_eq_true, eqd_iff, eqd_iff, eqd_iff, List.cons.injEq]
theorem eqd_len {α : Type} {l m : List α} (h : l.length ≠ m.length) : eqd l m = false := eqd_f fun e => h (by rw [e])
theorem Val.eqd_eq (a b : Val) : eqd a b = (eqd a.k b.k && (eqd a.n b.n && (eqd a.m b.m && (eqd a.inn b.inn && (eqd a.s b.s && ((eqd a.df b.df && eqd a.nd b.nd) && (eqd a.types b.types && (eqd a.labels b.labels && eqd a.kids b.kids)))))))) := by
  rw [Bool.eq_iff_iff]
  simp only [Bool.and_eq_true, eqd_iff]
  cases a; cases b
  simp only [Val.mk.injEq]
  constructor
  · rintro ⟨a, b, c, d, e, f, g, h, i, j⟩; exact ⟨a, b, c, d, e, ⟨f, g⟩, h, i, j⟩
  · rintro ⟨a, b, c, d, e, ⟨f, g⟩, h, i, j⟩; exact ⟨a, b, c, d, e, f, g, h, i, j⟩
theorem Core.eqd_eq (a b : Core) : eqd a b = (eqd a.k b.k && (eqd a.n b.n && (eqd a.m b.m && (eqd a.inn b.inn && (eqd a.name b.name && ((eqd a.df b.df && eqd a.nd b.nd) && (eqd a.types b.types && (eqd a.labels b.labels && (eqd a.vals b.vals && eqd a.kids b.kids))))))))) := by
  rw [Bool.eq_iff_iff]
  simp only [Bool.and_eq_true, eqd_iff]
  cases a; cases b
  simp only [Core.mk.injEq]
  constructor
  · rintro ⟨a, b, c, d, e, f, g, h, i, j, k⟩; exact ⟨a, b, c, d, e, ⟨f, g⟩, h, i, k, j⟩
  · rintro ⟨a, b, c, d, e, ⟨f, g⟩, h, i, j, k⟩; exact ⟨a, b, c, d, e, f, g, h, i, k, j⟩
end Go.Sh.T

/- Sameness: the program's and the document's. -/
namespace Go.Sh.T
open Go Go.Sh
set_option linter.unusedSimpArgs false
set_option linter.unusedVariables false
set_option maxRecDepth 100000
theorem lenA54 (es : List (List AV)) : lenA E 54 (.sl 11 es) = some (es.length : Int) := (Eq.refl _).trans (by kernel_rfl)
theorem lenA55 (es : List (List AV)) : lenA E 55 (.sl 10 es) = some (es.length : Int) := (Eq.refl _).trans (by kernel_rfl)
theorem apply_fn (F : Nat → List AV → Heap → R) (f : Nat) (args : List AV) (h : Heap) : applyV F (.fn f [] []) args h = F f args h := by
  have : applyV F (.fn f [] []) args h = F f (([] ++ args) ++ []) h := rfl
  rw [this, List.append_nil, List.nil_append]
theorem Ty.re (t : Ty) : [t.cells.getD 0 .dead, t.cells.getD 1 .dead, t.cells.getD 2 .dead, t.cells.getD 3 .dead, t.cells.getD 4 .dead] = t.cells := Ty.refold t
theorem label_ne (a b : ByteArray) (n m : Int) : binAV E .neq 25 (.agg [.lit (.string a), .lit (.int .i64 n)]) (.agg [.lit (.string b), .lit (.int .i64 m)]) = some (.lit (.bool (!(eqd a b && eqd n m)))) := by
  have h : binAV E .neq 25 (.agg [.lit (.string a), .lit (.int .i64 n)]) (.agg [.lit (.string b), .lit (.int .i64 m)]) = some (.lit (.bool (!((a == b) && ((n == m) && true))))) := (Eq.refl _).trans (by kernel_rfl)
  rw [h, Bool.and_true]
  have : (a == b) = eqd a b := by
    rw [Bool.eq_iff_iff, eqd_iff]
    cases a with
    | mk x =>
      cases b with
      | mk y =>
        show (x == y) = true ↔ _
        rw [beq_iff_eq]
        exact ⟨fun e => by rw [e], fun e => by cases e; rfl⟩
  rw [this, int_eqd]
theorem guardN {b c : Bool} {r : R} {h : Heap} (e : r = some (.ret (.lit (.bool c)), h)) : cond (!b) (some (.ret (.lit (.bool false)), h)) r = some (.ret (.lit (.bool (b && c))), h) := by
  cases b with
  | false => rfl
  | true => exact e
theorem guardP {b c : Bool} {r : R} {h : Heap} (e : r = some (.ret (.lit (.bool c)), h)) : cond b r (some (.ret (.lit (.bool false)), h)) = some (.ret (.lit (.bool (b && c))), h) := by
  cases b with
  | false => rfl
  | true => exact e
theorem int_ne (a b : Int) : (a != b) = !(eqd a b) := by rw [← int_eqd]; rfl
theorem neS (a b : ByteArray) : strBin .neq a b = some (.lit (.bool (!(eqd a b)))) := by
  have : strBin .neq a b = some (.lit (.bool (!(strEq a b)))) := (Eq.refl _).trans rfl
  rw [this, strEq_eqd]
theorem eqSt (a b : ByteArray) : strBin .eql a b = some (.lit (.bool (eqd a b))) := by
  have : strBin .eql a b = some (.lit (.bool (strEq a b))) := (Eq.refl _).trans rfl
  rw [this, strEq_eqd]
theorem neB (a b : Bool) : binAV E .neq 4 (.lit (.bool a)) (.lit (.bool b)) = some (.lit (.bool (!(eqd a b)))) := by
  have : binAV E .neq 4 (.lit (.bool a)) (.lit (.bool b)) = some (.lit (.bool (!(a == b)))) := (Eq.refl _).trans (by kernel_rfl)
  rw [this, bool_eqd]
theorem eqB (a b : Bool) : binAV E .eql 4 (.lit (.bool a)) (.lit (.bool b)) = some (.lit (.bool (eqd a b))) := by
  have : binAV E .eql 4 (.lit (.bool a)) (.lit (.bool b)) = some (.lit (.bool (a == b))) := (Eq.refl _).trans (by kernel_rfl)
  rw [this, bool_eqd]
theorem same23 (t u : Ty) (h : Heap) (ok : t.Ok) : evw E 23 [.agg t.cells, .agg u.cells] h = some (.ret (.lit (.bool (eqd t u))), h) := by
  rw [same_spec t u h ok, Ty.same_eqd]
theorem same79e (l m : List ByteArray) (hl : l.length ≤ maxLen) (h : Heap) : evw E 79 [.sl 1 (l.map strC), .sl 1 (m.map strC)] h = some (.ret (.lit (.bool (eqd l m))), h) := by
  rw [same79 l m hl h, sameS_eqd]

theorem same96 (l m : List Ty) (hl : l.length ≤ maxLen) (h : Heap) (rec : ∀ i (h1 : i < l.length) (h2 : i < m.length), evw E 23 [.agg (l[i]).cells, .agg (m[i]).cells] h = some (.ret (.lit (.bool (eqd l[i] m[i]))), h)) : evw E 96 [.sl 5 (l.map Ty.cells), .sl 5 (m.map Ty.cells)] h = some (.ret (.lit (.bool (eqd l m))), h) := by
  have hl : l.length ≤ 9223372036854775807 := hl
  have loop : ∀ (q i : Nat), l.length = m.length → i ≤ l.length → l.length < q + i → Lp96_0 (evw E) (l.length + 1) h q h (.sl 5 (l.map Ty.cells)) (.sl 5 (m.map Ty.cells)) (.lit (.int .i64 (i : Int))) = some (.ret (.lit (.bool (eqd (l.drop i) (m.drop i)))), h) := by
    intro q
    induction q with
    | zero => intro i _ h1 h2; omega
    | succ q ih =>
      intro i he h1 h2
      rw [Lp96_0_succ]
      simp only [lenA29, bind_some', bin_int, lssI, boolB, List.length_map]
      by_cases hi : i < l.length
      · have hj : i < m.length := by omega
        rw [ltT hi, condT, ltT hj, condT, indexA_map _ _ _ _ hi, bind_some', partA_full (Ty.cells_len _), bind_some', indexA_map _ _ _ _ hj, bind_some', partA_full (Ty.cells_len _), bind_some', rec i hi hj, onOut_ret, notB, bind_some', boolB, bind_some', List.drop_eq_getElem_cons hi, List.drop_eq_getElem_cons hj, eqd_cons, addI, bind_some', incI (by omega)]
        cases e : eqd l[i] m[i] with
        | false => rfl
        | true => exact ih (i + 1) he hi (by omega)
      · rw [ltF hi, condF, List.drop_of_length_le (by omega), List.drop_of_length_le (by omega), eqd_self]
  refine evw_run primsC (l.length + 1) rfl rfl rfl ?_
  rw [nf96]
  simp only [lenA29, bind_some', bin_int, neqI, boolB, List.length_map]
  by_cases he : l.length = m.length
  · have := loop (l.length + 1) 0 he (Nat.zero_le _) (by omega)
    rw [show ((l.length : Int) != (m.length : Int)) = false from by rw [he]; simp, condF]
    rw [show ((0 : Nat) : Int) = 0 from rfl, List.drop_zero, List.drop_zero] at this
    exact this
  · rw [show ((l.length : Int) != (m.length : Int)) = true from by rw [bne_iff_ne]; omega, condT, eqd_len he]


theorem same97 (l m : List Val) (hl : l.length ≤ maxLen) (h : Heap) (rec : ∀ i (h1 : i < l.length) (h2 : i < m.length), evw E 51 [.agg (l[i]).cells, .agg (m[i]).cells] h = some (.ret (.lit (.bool (eqd l[i] m[i]))), h)) : evw E 97 [.sl 10 (l.map Val.cells), .sl 10 (m.map Val.cells)] h = some (.ret (.lit (.bool (eqd l m))), h) := by
  have hl : l.length ≤ 9223372036854775807 := hl
  have loop : ∀ (q i : Nat), l.length = m.length → i ≤ l.length → l.length < q + i → Lp97_0 (evw E) (l.length + 1) h q h (.sl 10 (l.map Val.cells)) (.sl 10 (m.map Val.cells)) (.lit (.int .i64 (i : Int))) = some (.ret (.lit (.bool (eqd (l.drop i) (m.drop i)))), h) := by
    intro q
    induction q with
    | zero => intro i _ h1 h2; omega
    | succ q ih =>
      intro i he h1 h2
      rw [Lp97_0_succ]
      simp only [lenA55, bind_some', bin_int, lssI, boolB, List.length_map]
      by_cases hi : i < l.length
      · have hj : i < m.length := by omega
        rw [ltT hi, condT, ltT hj, condT, indexA_map _ _ _ _ hi, bind_some', partA_full (Val.cells_len _), bind_some', indexA_map _ _ _ _ hj, bind_some', partA_full (Val.cells_len _), bind_some', rec i hi hj, onOut_ret, notB, bind_some', boolB, bind_some', List.drop_eq_getElem_cons hi, List.drop_eq_getElem_cons hj, eqd_cons, addI, bind_some', incI (by omega)]
        cases e : eqd l[i] m[i] with
        | false => rfl
        | true => exact ih (i + 1) he hi (by omega)
      · rw [ltF hi, condF, List.drop_of_length_le (by omega), List.drop_of_length_le (by omega), eqd_self]
  refine evw_run primsC (l.length + 1) rfl rfl rfl ?_
  rw [nf97]
  simp only [lenA55, bind_some', bin_int, neqI, boolB, List.length_map]
  by_cases he : l.length = m.length
  · have := loop (l.length + 1) 0 he (Nat.zero_le _) (by omega)
    rw [show ((l.length : Int) != (m.length : Int)) = false from by rw [he]; simp, condF]
    rw [show ((0 : Nat) : Int) = 0 from rfl, List.drop_zero, List.drop_zero] at this
    exact this
  · rw [show ((l.length : Int) != (m.length : Int)) = true from by rw [bne_iff_ne]; omega, condT, eqd_len he]


theorem same100 (l m : List Ty) (hl : l.length ≤ maxLen) (h : Heap) (rec : ∀ i (h1 : i < l.length) (h2 : i < m.length), evw E 101 [.agg (l[i]).cells, .agg (m[i]).cells] h = some (.ret (.lit (.bool (eqd l[i] m[i]))), h)) : evw E 100 [.sl 5 (l.map Ty.cells), .sl 5 (m.map Ty.cells), .fn 101 [] []] h = some (.ret (.lit (.bool (eqd l m))), h) := by
  have hl : l.length ≤ 9223372036854775807 := hl
  have loop : ∀ (q i : Nat), l.length = m.length → i ≤ l.length → l.length < q + i → Lp100_0 (evw E) (l.length + 1) h q h (.sl 5 (m.map Ty.cells)) (.fn 101 [] []) (.sl 5 (l.map Ty.cells)) (.lit (.int .i64 (l.length : Int))) (.lit (.int .i64 (i : Int))) = some (.ret (.lit (.bool (eqd (l.drop i) (m.drop i)))), h) := by
    intro q
    induction q with
    | zero => intro i _ h1 h2; omega
    | succ q ih =>
      intro i he h1 h2
      rw [Lp100_0_succ, bin_int, lssI, bind_some', boolB, bind_some']
      by_cases hi : i < l.length
      · have hj : i < m.length := by omega
        rw [ltT hi, condT, indexA_map _ _ _ _ hi, bind_some', partA_full (Ty.cells_len _), bind_some', aggS, bind_some', Ty.cells_len, show Nat.beq 5 5 = true from rfl, condT, indexA_map _ _ _ _ hj, bind_some', partA_full (Ty.cells_len _), bind_some', aggS, bind_some', Ty.cells_len, show Nat.beq 5 5 = true from rfl, condT, Ty.re, Ty.re, apply_fn, rec i hi hj, onOut_ret, notB, bind_some', boolB, bind_some', List.drop_eq_getElem_cons hi, List.drop_eq_getElem_cons hj, eqd_cons, bin_int, addI, bind_some', incI (by omega)]
        cases e : eqd l[i] m[i] with
        | false => rfl
        | true => exact ih (i + 1) he hi (by omega)
      · rw [ltF hi, condF, List.drop_of_length_le (by omega), List.drop_of_length_le (by omega), eqd_self]
  refine evw_run primsC (l.length + 1) rfl rfl rfl ?_
  rw [nf100]
  simp only [lenA29, bind_some', bin_int, neqI, boolB, List.length_map]
  by_cases he : l.length = m.length
  · have := loop (l.length + 1) 0 he (Nat.zero_le _) (by omega)
    rw [show ((l.length : Int) != (m.length : Int)) = false from by rw [he]; simp, condF]
    rw [show ((0 : Nat) : Int) = 0 from rfl, List.drop_zero, List.drop_zero] at this
    exact this
  · rw [show ((l.length : Int) != (m.length : Int)) = true from by rw [bne_iff_ne]; omega, condT, eqd_len he]


theorem same103 (l m : List Val) (hl : l.length ≤ maxLen) (h : Heap) (rec : ∀ i (h1 : i < l.length) (h2 : i < m.length), evw E 50 [.agg (l[i]).cells, .agg (m[i]).cells] h = some (.ret (.lit (.bool (eqd l[i] m[i]))), h)) : evw E 103 [.sl 10 (l.map Val.cells), .sl 10 (m.map Val.cells), .fn 50 [] []] h = some (.ret (.lit (.bool (eqd l m))), h) := by
  have hl : l.length ≤ 9223372036854775807 := hl
  have loop : ∀ (q i : Nat), l.length = m.length → i ≤ l.length → l.length < q + i → Lp103_0 (evw E) (l.length + 1) h q h (.sl 10 (m.map Val.cells)) (.fn 50 [] []) (.sl 10 (l.map Val.cells)) (.lit (.int .i64 (l.length : Int))) (.lit (.int .i64 (i : Int))) = some (.ret (.lit (.bool (eqd (l.drop i) (m.drop i)))), h) := by
    intro q
    induction q with
    | zero => intro i _ h1 h2; omega
    | succ q ih =>
      intro i he h1 h2
      rw [Lp103_0_succ, bin_int, lssI, bind_some', boolB, bind_some']
      by_cases hi : i < l.length
      · have hj : i < m.length := by omega
        rw [ltT hi, condT, indexA_map _ _ _ _ hi, bind_some', partA_full (Val.cells_len _), bind_some', aggS, bind_some', Val.cells_len, show Nat.beq 10 10 = true from rfl, condT, indexA_map _ _ _ _ hj, bind_some', partA_full (Val.cells_len _), bind_some', aggS, bind_some', Val.cells_len, show Nat.beq 10 10 = true from rfl, condT, Val.re, Val.re, apply_fn, rec i hi hj, onOut_ret, notB, bind_some', boolB, bind_some', List.drop_eq_getElem_cons hi, List.drop_eq_getElem_cons hj, eqd_cons, bin_int, addI, bind_some', incI (by omega)]
        cases e : eqd l[i] m[i] with
        | false => rfl
        | true => exact ih (i + 1) he hi (by omega)
      · rw [ltF hi, condF, List.drop_of_length_le (by omega), List.drop_of_length_le (by omega), eqd_self]
  refine evw_run primsC (l.length + 1) rfl rfl rfl ?_
  rw [nf103]
  simp only [lenA55, bind_some', bin_int, neqI, boolB, List.length_map]
  by_cases he : l.length = m.length
  · have := loop (l.length + 1) 0 he (Nat.zero_le _) (by omega)
    rw [show ((l.length : Int) != (m.length : Int)) = false from by rw [he]; simp, condF]
    rw [show ((0 : Nat) : Int) = 0 from rfl, List.drop_zero, List.drop_zero] at this
    exact this
  · rw [show ((l.length : Int) != (m.length : Int)) = true from by rw [bne_iff_ne]; omega, condT, eqd_len he]


theorem same104 (l m : List Core) (hl : l.length ≤ maxLen) (h : Heap) (rec : ∀ i (h1 : i < l.length) (h2 : i < m.length), evw E 49 [.agg (l[i]).cells, .agg (m[i]).cells] h = some (.ret (.lit (.bool (eqd l[i] m[i]))), h)) : evw E 104 [.sl 11 (l.map Core.cells), .sl 11 (m.map Core.cells), .fn 49 [] []] h = some (.ret (.lit (.bool (eqd l m))), h) := by
  have hl : l.length ≤ 9223372036854775807 := hl
  have loop : ∀ (q i : Nat), l.length = m.length → i ≤ l.length → l.length < q + i → Lp104_0 (evw E) (l.length + 1) h q h (.sl 11 (m.map Core.cells)) (.fn 49 [] []) (.sl 11 (l.map Core.cells)) (.lit (.int .i64 (l.length : Int))) (.lit (.int .i64 (i : Int))) = some (.ret (.lit (.bool (eqd (l.drop i) (m.drop i)))), h) := by
    intro q
    induction q with
    | zero => intro i _ h1 h2; omega
    | succ q ih =>
      intro i he h1 h2
      rw [Lp104_0_succ, bin_int, lssI, bind_some', boolB, bind_some']
      by_cases hi : i < l.length
      · have hj : i < m.length := by omega
        rw [ltT hi, condT, indexA_map _ _ _ _ hi, bind_some', partA_full (Core.cells_len _), bind_some', aggS, bind_some', Core.cells_len, show Nat.beq 11 11 = true from rfl, condT, indexA_map _ _ _ _ hj, bind_some', partA_full (Core.cells_len _), bind_some', aggS, bind_some', Core.cells_len, show Nat.beq 11 11 = true from rfl, condT, Core.re, Core.re, apply_fn, rec i hi hj, onOut_ret, notB, bind_some', boolB, bind_some', List.drop_eq_getElem_cons hi, List.drop_eq_getElem_cons hj, eqd_cons, bin_int, addI, bind_some', incI (by omega)]
        cases e : eqd l[i] m[i] with
        | false => rfl
        | true => exact ih (i + 1) he hi (by omega)
      · rw [ltF hi, condF, List.drop_of_length_le (by omega), List.drop_of_length_le (by omega), eqd_self]
  refine evw_run primsC (l.length + 1) rfl rfl rfl ?_
  rw [nf104]
  simp only [lenA54, bind_some', bin_int, neqI, boolB, List.length_map]
  by_cases he : l.length = m.length
  · have := loop (l.length + 1) 0 he (Nat.zero_le _) (by omega)
    rw [show ((l.length : Int) != (m.length : Int)) = false from by rw [he]; simp, condF]
    rw [show ((0 : Nat) : Int) = 0 from rfl, List.drop_zero, List.drop_zero] at this
    exact this
  · rw [show ((l.length : Int) != (m.length : Int)) = true from by rw [bne_iff_ne]; omega, condT, eqd_len he]

theorem same102 (l m : List ByteArray) (hl : l.length ≤ maxLen) (h : Heap) : evw E 102 [.sl 1 (l.map strC), .sl 1 (m.map strC)] h = some (.ret (.lit (.bool (eqd l m))), h) := by
  have hl : l.length ≤ 9223372036854775807 := hl
  have loop : ∀ (q i : Nat), l.length = m.length → i ≤ l.length → l.length < q + i → Lp102_0 (evw E) (l.length + 1) h q h (.sl 1 (l.map strC)) (.sl 1 (m.map strC)) (.lit (.int .i64 (l.length : Int))) (.lit (.int .i64 (i : Int))) = some (.ret (.lit (.bool (eqd (l.drop i) (m.drop i)))), h) := by
    intro q
    induction q with
    | zero => intro i _ h1 h2; omega
    | succ q ih =>
      intro i he h1 h2
      rw [Lp102_0_succ, bin_int, lssI, bind_some', boolB, bind_some']
      by_cases hi : i < l.length
      · have hj : i < m.length := by omega
        rw [ltT hi, condT, indexA_map _ _ _ _ hi, bind_some', part_str, bind_some', indexA_map _ _ _ _ hj, bind_some', part_str, bind_some', bin_str, neS, bind_some', boolB, bind_some', List.drop_eq_getElem_cons hi, List.drop_eq_getElem_cons hj, eqd_cons, bin_int, addI, bind_some', incI (by omega)]
        cases e : eqd l[i] m[i] with
        | false => rfl
        | true => exact ih (i + 1) he hi (by omega)
      · rw [ltF hi, condF, List.drop_of_length_le (by omega), List.drop_of_length_le (by omega), eqd_self]
  refine evw_run primsC (l.length + 1) rfl rfl rfl ?_
  rw [nf102]
  simp only [lenA31, bind_some', bin_int, neqI, boolB, List.length_map]
  by_cases he : l.length = m.length
  · have := loop (l.length + 1) 0 he (Nat.zero_le _) (by omega)
    rw [show ((l.length : Int) != (m.length : Int)) = false from by rw [he]; simp, condF]
    rw [show ((0 : Nat) : Int) = 0 from rfl, List.drop_zero, List.drop_zero] at this
    exact this
  · rw [show ((l.length : Int) != (m.length : Int)) = true from by rw [bne_iff_ne]; omega, condT, eqd_len he]

/- ty.Same -/
theorem Ty.eqd_eq (a b : Ty) : eqd a b = (eqd a.k b.k && (eqd a.n b.n && (eqd a.name b.name && (eqd a.labels b.labels && eqd a.args b.args)))) := by
  rw [Bool.eq_iff_iff]
  simp only [Bool.and_eq_true, eqd_iff]
  cases a; cases b
  simp only [Ty.mk.injEq]
theorem same101 : ∀ (t u : Ty) (h : Heap), t.Ok → evw E 101 [.agg t.cells, .agg u.cells] h = some (.ret (.lit (.bool (eqd t u))), h)
  | t, u, h, ok => by
    have hrec := same100 t.args u.args ok.len h fun i h1 h2 => same101 t.args[i] u.args[i] h (ok.arg (List.getElem_mem h1))
    refine evw_run primsC 0 rfl rfl rfl ?_
    rw [nf101]
    simp only [aggS, bind_some', Ty.cells_len, show Nat.beq 5 5 = true from rfl, condT, Ty.c0, Ty.c1, Ty.c2, Ty.c3, Ty.c4, bin_int, eqlI, int_eqd, bin_str, eqSt, boolB, same102 _ _ ok.lab, hrec, onOut_ret]
    rw [Ty.eqd_eq]
    cases eqd t.k u.k <;> cases eqd t.n u.n <;> cases eqd t.name u.name <;> cases eqd t.labels u.labels <;> rfl
  termination_by t => SizeOf.sizeOf t
  decreasing_by exact Ty.size_arg h1

/- values -/
theorem same50 : ∀ (t u : Val) (h : Heap), t.Ok → evw E 50 [.agg t.cells, .agg u.cells] h = some (.ret (.lit (.bool (eqd t u))), h)
  | t, u, h, ok => by
    have hrec := same103 t.kids u.kids ok.len h fun i h1 h2 => same50 t.kids[i] u.kids[i] h (ok.kid (List.getElem_mem h1))
    have hty := same100 t.types u.types ok.tlen h fun i h1 h2 => same101 t.types[i] u.types[i] h (ok.ty (List.getElem_mem h1))
    refine evw_run primsC 0 rfl rfl rfl ?_
    rw [nf50]
    simp only [aggS, bind_some', Val.cells_len, show Nat.beq 10 10 = true from rfl, condT, Val.c0, Val.c1, Val.c2, Val.c3, Val.c4, Val.c5, Val.c6, Val.c7, Val.c8, Val.c9, bin_int, neqI, int_ne, bin_str, neS, neB, label_ne, boolB, same102 _ _ ok.lab, hrec, hty, onOut_ret]
    rw [Val.eqd_eq]
    repeat (first | refine guardN ?_ | refine guardP ?_)
    all_goals rfl
  termination_by t => SizeOf.sizeOf t
  decreasing_by exact Val.size_kid h1
theorem same51 : ∀ (t u : Val) (h : Heap), t.Ok → evw E 51 [.agg t.cells, .agg u.cells] h = some (.ret (.lit (.bool (eqd t u))), h)
  | t, u, h, ok => by
    have hrec := same97 t.kids u.kids ok.len h fun i h1 h2 => same51 t.kids[i] u.kids[i] h (ok.kid (List.getElem_mem h1))
    have hty := same96 t.types u.types ok.tlen h fun i h1 h2 => same23 t.types[i] u.types[i] h (ok.ty (List.getElem_mem h1))
    refine evw_run primsC 0 rfl rfl rfl ?_
    rw [nf51]
    simp only [aggS, bind_some', Val.cells_len, show Nat.beq 10 10 = true from rfl, condT, Val.c0, Val.c1, Val.c2, Val.c3, Val.c4, Val.c5, Val.c6, Val.c7, Val.c8, Val.c9, bin_int, neqI, int_ne, bin_str, neS, neB, label_ne, boolB, notB, same79e _ _ ok.lab, hrec, hty, onOut_ret]
    rw [Val.eqd_eq]
    repeat (first | refine guardN ?_ | refine guardP ?_)
    all_goals rfl
  termination_by t => SizeOf.sizeOf t
  decreasing_by exact Val.size_kid h1

/- terms -/
theorem same49 : ∀ (t u : Core) (h : Heap), t.Ok → evw E 49 [.agg t.cells, .agg u.cells] h = some (.ret (.lit (.bool (eqd t u))), h)
  | t, u, h, ok => by
    have hrec := same104 t.kids u.kids ok.len h fun i h1 h2 => same49 t.kids[i] u.kids[i] h (ok.kid (List.getElem_mem h1))
    have hv := same103 t.vals u.vals ok.vlen h fun i h1 h2 => same50 t.vals[i] u.vals[i] h (ok.val (List.getElem_mem h1))
    have hty := same100 t.types u.types ok.tlen h fun i h1 h2 => same101 t.types[i] u.types[i] h (ok.ty (List.getElem_mem h1))
    refine evw_run primsC 0 rfl rfl rfl ?_
    rw [nf49]
    simp only [aggS, bind_some', Core.cells_len, show Nat.beq 11 11 = true from rfl, condT, Core.c0, Core.c1, Core.c2, Core.c3, Core.c4, Core.c5, Core.c6, Core.c7, Core.c8, Core.c9, Core.c10, bin_int, neqI, int_ne, bin_str, neS, neB, label_ne, boolB, notB, same102 _ _ ok.lab, hrec, hty, hv, onOut_ret]
    rw [Core.eqd_eq]
    repeat (first | refine guardN ?_ | refine guardP ?_)
    all_goals rfl
  termination_by t => SizeOf.sizeOf t
  decreasing_by exact Core.size_kid h1
theorem same45 : ∀ (t u : Core) (h : Heap), t.Ok → evw E 45 [.agg t.cells, .agg u.cells] h = some (.ret (.lit (.bool (eqd t u))), h)
  | t, u, h, ok => by
    have hlen : t.kids.length ≤ 9223372036854775807 := ok.len
    have hv := same97 t.vals u.vals ok.vlen h fun i h1 h2 => same51 t.vals[i] u.vals[i] h (ok.val (List.getElem_mem h1))
    have hty := same96 t.types u.types ok.tlen h fun i h1 h2 => same23 t.types[i] u.types[i] h (ok.ty (List.getElem_mem h1))
    have loop : ∀ (x0 x1 x2 x3 x4 x5 x6 x7 x8 x10 y0 y1 y2 y3 y4 y5 y6 y7 y8 y10 : AV) (q i : Nat), t.kids.length = u.kids.length → i ≤ t.kids.length → t.kids.length < q + i → Lp45_0 (evw E) (t.kids.length + 1) h q h x0 x1 x2 x3 x4 x5 x6 x7 x8 (.sl 11 (t.kids.map Core.cells)) x10 y0 y1 y2 y3 y4 y5 y6 y7 y8 (.sl 11 (u.kids.map Core.cells)) y10 (.lit (.int .i64 (i : Int))) = some (.ret (.lit (.bool (eqd (t.kids.drop i) (u.kids.drop i)))), h) := by
      intro x0 x1 x2 x3 x4 x5 x6 x7 x8 x10 y0 y1 y2 y3 y4 y5 y6 y7 y8 y10 q
      induction q with
      | zero => intro i _ h1 h2; omega
      | succ q ih =>
        intro i he h1 h2
        rw [Lp45_0_succ]
        simp only [lenA54, bind_some', bin_int, lssI, boolB, List.length_map]
        by_cases hi : i < t.kids.length
        · have hj : i < u.kids.length := by omega
          have hrec := same45 t.kids[i] u.kids[i] h (ok.kid (List.getElem_mem hi))
          rw [ltT hi, condT, ltT hj, condT, indexA_map _ _ _ _ hi, bind_some', partA_full (Core.cells_len _), bind_some', indexA_map _ _ _ _ hj, bind_some', partA_full (Core.cells_len _), bind_some', hrec, onOut_ret, notB, bind_some', boolB, bind_some', List.drop_eq_getElem_cons hi, List.drop_eq_getElem_cons hj, eqd_cons, addI, bind_some', incI (by omega)]
          cases e : eqd t.kids[i] u.kids[i] with
          | false => rfl
          | true => exact ih (i + 1) he hi (by omega)
        · rw [ltF hi, condF, List.drop_of_length_le (by omega), List.drop_of_length_le (by omega), eqd_self]
    refine evw_run primsC (t.kids.length + 1) rfl rfl rfl ?_
    rw [nf45]
    simp only [aggS, bind_some', Core.cells_len, show Nat.beq 11 11 = true from rfl, condT, Core.c0, Core.c1, Core.c2, Core.c3, Core.c4, Core.c5, Core.c6, Core.c7, Core.c8, Core.c9, Core.c10, bin_int, neqI, bin_str, neS, neB, label_ne, boolB, notB, same79e _ _ ok.lab, hty, hv, onOut_ret, lenA54, List.length_map]
    rw [Core.eqd_eq, int_ne t.k, int_ne t.n, int_ne t.m]
    have hk : ∀ (x0 x1 x2 x3 x4 x5 x6 x7 x8 x10 y0 y1 y2 y3 y4 y5 y6 y7 y8 y10 : AV), cond ((t.kids.length : Int) != (u.kids.length : Int)) (some (Out.ret (.lit (.bool false)), h)) (Lp45_0 (evw E) (t.kids.length + 1) h (t.kids.length + 1) h x0 x1 x2 x3 x4 x5 x6 x7 x8 (.sl 11 (t.kids.map Core.cells)) x10 y0 y1 y2 y3 y4 y5 y6 y7 y8 (.sl 11 (u.kids.map Core.cells)) y10 (.lit (.int .i64 0))) = some (.ret (.lit (.bool (eqd t.kids u.kids))), h) := by
      intro x0 x1 x2 x3 x4 x5 x6 x7 x8 x10 y0 y1 y2 y3 y4 y5 y6 y7 y8 y10
      by_cases he : t.kids.length = u.kids.length
      · have := loop x0 x1 x2 x3 x4 x5 x6 x7 x8 x10 y0 y1 y2 y3 y4 y5 y6 y7 y8 y10 (t.kids.length + 1) 0 he (Nat.zero_le _) (by omega)
        rw [show ((t.kids.length : Int) != (u.kids.length : Int)) = false from by rw [he]; simp, condF]
        rw [show ((0 : Nat) : Int) = 0 from rfl, List.drop_zero, List.drop_zero] at this
        exact this
      · rw [show ((t.kids.length : Int) != (u.kids.length : Int)) = true from by rw [bne_iff_ne]; omega, condT, eqd_len he]
    rw [hk]
    repeat (first | refine guardN ?_ | refine guardP ?_)
    all_goals rfl
  termination_by t => SizeOf.sizeOf t
  decreasing_by exact Core.size_kid hi
end Go.Sh.T

/- How much a value, a term has. -/
namespace Go.Sh.T
open Go Go.Sh
set_option linter.unusedSimpArgs false
set_option linter.unusedVariables false
set_option maxRecDepth 100000

def muchTs (n : Int) : List Ty → Int
  | [] => n
  | t :: r => bif decide (n < 3000) then muchTs (add64 n t.much) r else n
mutual
def Val.much : Val → Int
  | ⟨_, _, _, _, s, d, _, ts, ls, xs⟩ => Val.muchL (muchTs (add64 (add64 (add64 1 (quo8 s)) ls.length) (quo8 d)) ts) xs
def Val.muchL (n : Int) : List Val → Int
  | [] => n
  | t :: r => bif decide (n < 3000) then Val.muchL (add64 n t.much) r else n
end
theorem Val.much_eq (t : Val) : t.much = Val.muchL (muchTs (add64 (add64 (add64 1 (quo8 t.s)) t.labels.length) (quo8 t.df)) t.types) t.kids := by cases t; rw [Val.much]
mutual
def Core.much : Core → Int
  | ⟨_, _, _, _, s, d, _, ts, ls, xs, vs⟩ => Core.muchL (Val.muchL (muchTs (add64 (add64 (add64 1 (quo8 s)) ls.length) (quo8 d)) ts) vs) xs
def Core.muchL (n : Int) : List Core → Int
  | [] => n
  | t :: r => bif decide (n < 3000) then Core.muchL (add64 n t.much) r else n
end
theorem Core.much_eq (t : Core) : t.much = Core.muchL (Val.muchL (muchTs (add64 (add64 (add64 1 (quo8 t.name)) t.labels.length) (quo8 t.df)) t.types) t.vals) t.kids := by cases t; rw [Core.much]

theorem much48 : ∀ (t : Val) (h : Heap), t.Ok → evw E 48 [.agg t.cells] h = some (.ret (.lit (.int .i64 t.much)), h)
  | t, h, ok => by
    have hlen : t.kids.length ≤ 9223372036854775807 := ok.len
    have htl : t.types.length ≤ 9223372036854775807 := ok.tlen
    have loop1 : ∀ (x0 x1 x2 x3 x4 x5 x6 x7 x8 : AV) (m i : Nat) (acc : Int), i ≤ t.kids.length → t.kids.length < m + i → Lp48_1 (evw E) (t.kids.length + t.types.length + 1) h m h x0 x1 x2 x3 x4 x5 x6 x7 x8 (.sl 10 (t.kids.map Val.cells)) (.lit (.int .i64 acc)) (.lit (.int .i64 (i : Int))) = some (.ret (.lit (.int .i64 (Val.muchL acc (t.kids.drop i)))), h) := by
      intro x0 x1 x2 x3 x4 x5 x6 x7 x8 m
      induction m with
      | zero => intro i acc h1 h2; omega
      | succ m ih =>
        intro i acc h1 h2
        rw [Lp48_1_succ]
        simp only [lenA55, bind_some', bin_int, lssI, boolB, List.length_map]
        by_cases hi : i < t.kids.length
        · have hrec := much48 (t.kids[i]) h (ok.kid (List.getElem_mem hi))
          rw [ltT hi, condT, List.drop_eq_getElem_cons hi, Val.muchL]
          cases decide (acc < 3000) with
          | false => rfl
          | true =>
            rw [condT, condT]
            simp only [indexA_map _ _ _ _ hi, bind_some', partA_full (Val.cells_len _), hrec, onOut_ret, bin_int, addI]
            rw [incI (by omega)]
            exact ih (i + 1) _ hi (by omega)
        · rw [ltF hi, condF, List.drop_of_length_le (by omega), Val.muchL]
    have loop0 : ∀ (x0 x1 x2 x3 x4 x5 x6 x8 : AV) (m i : Nat) (acc : Int), i ≤ t.types.length → t.types.length < m + i → Lp48_0 (evw E) (t.kids.length + t.types.length + 1) h m h x0 x1 x2 x3 x4 x5 x6 (.sl 5 (t.types.map Ty.cells)) x8 (.sl 10 (t.kids.map Val.cells)) (.lit (.int .i64 acc)) (.lit (.int .i64 (i : Int))) = some (.ret (.lit (.int .i64 (Val.muchL (muchTs acc (t.types.drop i)) t.kids))), h) := by
      intro x0 x1 x2 x3 x4 x5 x6 x8 m
      have fin := fun acc => loop1 x0 x1 x2 x3 x4 x5 x6 (.sl 5 (t.types.map Ty.cells)) x8 (t.kids.length + t.types.length + 1) 0 acc (Nat.zero_le _) (by omega)
      induction m with
      | zero => intro i acc h1 h2; omega
      | succ m ih =>
        intro i acc h1 h2
        rw [Lp48_0_succ]
        simp only [lenA29, bind_some', bin_int, lssI, boolB, List.length_map]
        have fin' := fin acc
        rw [List.drop_zero, show ((0 : Nat) : Int) = 0 from rfl] at fin'
        by_cases hi : i < t.types.length
        · rw [ltT hi, condT, List.drop_eq_getElem_cons hi, muchTs]
          cases decide (acc < 3000) with
          | false => rw [condF, condF]; exact fin'
          | true =>
            rw [condT, condT]
            simp only [indexA_map _ _ _ _ hi, bind_some', partA_full (Ty.cells_len _), much_spec _ h (ok.ty (List.getElem_mem hi)), onOut_ret, bin_int, addI]
            rw [incI (by omega)]
            exact ih (i + 1) _ hi (by omega)
        · rw [ltF hi, condF, List.drop_of_length_le (by omega), muchTs]; exact fin'
    refine evw_run primsC (t.kids.length + t.types.length + 1) rfl rfl rfl ?_
    rw [nf48]
    simp only [aggS, bind_some', Val.cells_len, Val.c0, Val.c1, Val.c2, Val.c3, Val.c4, Val.c5, Val.c6, Val.c7, Val.c8, Val.c9, lenS, bin_int, div8, addI, lenA31, List.length_map, show Nat.beq 10 10 = true from rfl]
    rw [condT, Val.much_eq]
    have := loop0 (.lit (.int .i64 t.k)) (.lit (.int .i64 t.n)) (.lit (.int .i64 t.m)) (.lit (.bool t.inn)) (.lit (.string t.s)) (.lit (.string t.df)) (.lit (.int .i64 t.nd)) (.sl 1 (t.labels.map strC)) (t.kids.length + t.types.length + 1) 0 (add64 (add64 (add64 1 (quo8 t.s)) t.labels.length) (quo8 t.df)) (Nat.zero_le _) (by omega)
    rw [List.drop_zero, show ((0 : Nat) : Int) = 0 from rfl] at this
    exact this
  termination_by t => SizeOf.sizeOf t
  decreasing_by exact Val.size_kid hi

theorem much36 : ∀ (t : Core) (h : Heap), t.Ok → evw E 36 [.agg t.cells] h = some (.ret (.lit (.int .i64 t.much)), h)
  | t, h, ok => by
    have hlen : t.kids.length ≤ 9223372036854775807 := ok.len
    have htl : t.types.length ≤ 9223372036854775807 := ok.tlen
    have hvl : t.vals.length ≤ 9223372036854775807 := ok.vlen
    have loop2 : ∀ (x0 x1 x2 x3 x4 x5 x6 x7 x8 x10 : AV) (m i : Nat) (acc : Int), i ≤ t.kids.length → t.kids.length < m + i → Lp36_2 (evw E) (t.kids.length + t.types.length + t.vals.length + 1) h m h x0 x1 x2 x3 x4 x5 x6 x7 x8 (.sl 11 (t.kids.map Core.cells)) x10 (.lit (.int .i64 acc)) (.lit (.int .i64 (i : Int))) = some (.ret (.lit (.int .i64 (Core.muchL acc (t.kids.drop i)))), h) := by
      intro x0 x1 x2 x3 x4 x5 x6 x7 x8 x10 m
      induction m with
      | zero => intro i acc h1 h2; omega
      | succ m ih =>
        intro i acc h1 h2
        rw [Lp36_2_succ]
        simp only [lenA54, bind_some', bin_int, lssI, boolB, List.length_map]
        by_cases hi : i < t.kids.length
        · have hrec := much36 (t.kids[i]) h (ok.kid (List.getElem_mem hi))
          rw [ltT hi, condT, List.drop_eq_getElem_cons hi, Core.muchL]
          cases decide (acc < 3000) with
          | false => rfl
          | true =>
            rw [condT, condT]
            simp only [indexA_map _ _ _ _ hi, bind_some', partA_full (Core.cells_len _), hrec, onOut_ret, bin_int, addI]
            rw [incI (by omega)]
            exact ih (i + 1) _ hi (by omega)
        · rw [ltF hi, condF, List.drop_of_length_le (by omega), Core.muchL]
    have loop1 : ∀ (x0 x1 x2 x3 x4 x5 x6 x7 x8 : AV) (m i : Nat) (acc : Int), i ≤ t.vals.length → t.vals.length < m + i → Lp36_1 (evw E) (t.kids.length + t.types.length + t.vals.length + 1) h m h x0 x1 x2 x3 x4 x5 x6 x7 x8 (.sl 11 (t.kids.map Core.cells)) (.sl 10 (t.vals.map Val.cells)) (.lit (.int .i64 acc)) (.lit (.int .i64 (i : Int))) = some (.ret (.lit (.int .i64 (Core.muchL (Val.muchL acc (t.vals.drop i)) t.kids))), h) := by
      intro x0 x1 x2 x3 x4 x5 x6 x7 x8 m
      have fin := fun acc => loop2 x0 x1 x2 x3 x4 x5 x6 x7 x8 (.sl 10 (t.vals.map Val.cells)) (t.kids.length + t.types.length + t.vals.length + 1) 0 acc (Nat.zero_le _) (by omega)
      induction m with
      | zero => intro i acc h1 h2; omega
      | succ m ih =>
        intro i acc h1 h2
        rw [Lp36_1_succ]
        simp only [lenA55, bind_some', bin_int, lssI, boolB, List.length_map]
        have fin' := fin acc
        rw [List.drop_zero, show ((0 : Nat) : Int) = 0 from rfl] at fin'
        by_cases hi : i < t.vals.length
        · rw [ltT hi, condT, List.drop_eq_getElem_cons hi, Val.muchL]
          cases decide (acc < 3000) with
          | false => rw [condF, condF]; exact fin'
          | true =>
            rw [condT, condT]
            simp only [indexA_map _ _ _ _ hi, bind_some', partA_full (Val.cells_len _), much48 _ h (ok.val (List.getElem_mem hi)), onOut_ret, bin_int, addI]
            rw [incI (by omega)]
            exact ih (i + 1) _ hi (by omega)
        · rw [ltF hi, condF, List.drop_of_length_le (by omega), Val.muchL]; exact fin'
    have loop0 : ∀ (x0 x1 x2 x3 x4 x5 x6 x8 : AV) (m i : Nat) (acc : Int), i ≤ t.types.length → t.types.length < m + i → Lp36_0 (evw E) (t.kids.length + t.types.length + t.vals.length + 1) h m h x0 x1 x2 x3 x4 x5 x6 (.sl 5 (t.types.map Ty.cells)) x8 (.sl 11 (t.kids.map Core.cells)) (.sl 10 (t.vals.map Val.cells)) (.lit (.int .i64 acc)) (.lit (.int .i64 (i : Int))) = some (.ret (.lit (.int .i64 (Core.muchL (Val.muchL (muchTs acc (t.types.drop i)) t.vals) t.kids))), h) := by
      intro x0 x1 x2 x3 x4 x5 x6 x8 m
      have fin := fun acc => loop1 x0 x1 x2 x3 x4 x5 x6 (.sl 5 (t.types.map Ty.cells)) x8 (t.kids.length + t.types.length + t.vals.length + 1) 0 acc (Nat.zero_le _) (by omega)
      induction m with
      | zero => intro i acc h1 h2; omega
      | succ m ih =>
        intro i acc h1 h2
        rw [Lp36_0_succ]
        simp only [lenA29, bind_some', bin_int, lssI, boolB, List.length_map]
        have fin' := fin acc
        rw [List.drop_zero, show ((0 : Nat) : Int) = 0 from rfl] at fin'
        by_cases hi : i < t.types.length
        · rw [ltT hi, condT, List.drop_eq_getElem_cons hi, muchTs]
          cases decide (acc < 3000) with
          | false => rw [condF, condF]; exact fin'
          | true =>
            rw [condT, condT]
            simp only [indexA_map _ _ _ _ hi, bind_some', partA_full (Ty.cells_len _), much_spec _ h (ok.ty (List.getElem_mem hi)), onOut_ret, bin_int, addI]
            rw [incI (by omega)]
            exact ih (i + 1) _ hi (by omega)
        · rw [ltF hi, condF, List.drop_of_length_le (by omega), muchTs]; exact fin'
    refine evw_run primsC (t.kids.length + t.types.length + t.vals.length + 1) rfl rfl rfl ?_
    rw [nf36]
    simp only [aggS, bind_some', Core.cells_len, Core.c0, Core.c1, Core.c2, Core.c3, Core.c4, Core.c5, Core.c6, Core.c7, Core.c8, Core.c9, Core.c10, lenS, bin_int, div8, addI, lenA31, List.length_map, show Nat.beq 11 11 = true from rfl]
    rw [condT, Core.much_eq]
    have := loop0 (.lit (.int .i64 t.k)) (.lit (.int .i64 t.n)) (.lit (.int .i64 t.m)) (.lit (.bool t.inn)) (.lit (.string t.name)) (.lit (.string t.df)) (.lit (.int .i64 t.nd)) (.sl 1 (t.labels.map strC)) (t.kids.length + t.types.length + t.vals.length + 1) 0 (add64 (add64 (add64 1 (quo8 t.name)) t.labels.length) (quo8 t.df)) (Nat.zero_le _) (by omega)
    rw [List.drop_zero, show ((0 : Nat) : Int) = 0 from rfl] at this
    exact this
  termination_by t => SizeOf.sizeOf t
  decreasing_by exact Core.size_kid hi

theorem awake37 : evw E 37 [] [] = some (.ret (.lit (.bool true)), []) := evk 40 (by kernel_rfl)
end Go.Sh.T

/- CoreSame; the readings of values and terms. -/
namespace Go.Sh.T
open Go Go.Sh
set_option linter.unusedSimpArgs false
set_option linter.unusedVariables false
set_option maxRecDepth 100000

theorem coreSame_row (a : Core) (oa : a.Ok) (b : Core) (ob : b.Ok) (v : Val) (ov : v.Ok) (w : Val) (ow : w.Ok) (_ : List Nat) : evw E 7 [.agg a.cells, .agg b.cells, .agg v.cells, .agg w.cells] [] = some (.ret (.lit (.bool true)), []) := by
  refine evw_run primsC 0 rfl rfl rfl ?_
  rw [nf7]
  simp only [aggS, bind_some', Core.cells_len, Val.cells_len, show Nat.beq 11 11 = true from rfl, show Nat.beq 10 10 = true from rfl, condT, Core.re, Val.re, much36 _ _ oa, much36 _ _ ob, much48 _ _ ov, much48 _ _ ow, onOut_ret, bin_int, gtrI, boolB, awake37, same49 _ _ _ oa, same45 _ _ _ oa, same50 _ _ _ ov, same51 _ _ _ ov, eqB, eqd_self]
  cases decide (a.much > 800) <;> cases decide (b.much > 800) <;> cases decide (v.much > 500) <;> cases decide (w.much > 500) <;> rfl

theorem ty4 : E.ty 4 = some ti4 := by kernel_rfl
theorem ty54 : E.ty 54 = some ti54 := by kernel_rfl
theorem ty55 : E.ty 55 = some ti55 := by kernel_rfl
theorem ty57 : E.ty 57 = some ti57 := by kernel_rfl
theorem ty66 : E.ty 66 = some ti66 := by kernel_rfl
theorem ty25' : E.ty 25 = some ti25 := by kernel_rfl

theorem bool_of {t : TypeId} {vs : List AV} (h : TypedC E t vs) (e : E.ty t = some ti4) : ∃ b, vs = [.lit (.bool b)] := by
  cases h with
  | bool h hd b => exact ⟨b, rfl⟩
  | int h hd hw => rw [e] at h; cases h; cases hd
  | str h hd hs => rw [e] at h; cases h; cases hd
  | sl h hd hj hl hes => rw [e] at h; cases h; cases hd
  | struct h hd hf => rw [e] at h; cases h; cases hd

theorem at_of {vs : List AV} (h : TypedC E 25 vs) : ∃ (s : ByteArray) (n : Int), vs = [.lit (.string s), .lit (.int .i64 n)] ∧ s.size ≤ maxLen ∧ (Lit.int .i64 n).wf = true := by
  cases h with
  | bool h hd b => rw [ty25'] at h; cases h; cases hd
  | int h hd hw => rw [ty25'] at h; cases h; cases hd
  | str h hd hs => rw [ty25'] at h; cases h; cases hd
  | sl h hd hj hl hes => rw [ty25'] at h; cases h; cases hd
  | struct h hd hf =>
    rw [ty25'] at h; cases h; cases hd
    cases hf with
    | cons h1 hf =>
    cases hf with
    | cons h2 hf =>
    cases hf
    obtain ⟨s, rfl, hs⟩ := str_of h1 ty9
    obtain ⟨n, rfl, hn⟩ := int_of h2 ty3
    exact ⟨s, n, rfl, hs, hn⟩

theorem types_of {vs : List AV} (h : TypedC E 29 vs) : ∃ l : List Ty, vs = [.sl 5 (l.map Ty.cells)] ∧ l.length ≤ maxLen ∧ ∀ s ∈ l, s.Ok := by
  cases h with
  | bool h hd b => rw [ty29] at h; cases h; cases hd
  | int h hd hw => rw [ty29] at h; cases h; cases hd
  | str h hd hs => rw [ty29] at h; cases h; cases hd
  | struct h hd hf => rw [ty29] at h; cases h; cases hd
  | sl h hd hj hl hes =>
    rw [ty29] at h; cases h; cases hd
    rw [ty33] at hj; cases hj
    obtain ⟨l, rfl, hs⟩ := tys_of hes
    exact ⟨l, rfl, by simpa using hl, hs⟩

theorem val_fuel : ∀ n : Nat, (∀ vs : List AV, SizeOf.sizeOf vs < n → TypedC E 66 vs → ∃ x : Val, vs = x.cells ∧ x.Ok) ∧ (∀ es : List (List AV), SizeOf.sizeOf es < n → TypedE E 66 es → ∃ l : List Val, es = l.map Val.cells ∧ ∀ x ∈ l, x.Ok)
  | 0 => ⟨fun _ h => by omega, fun _ h => by omega⟩
  | n + 1 => by
    obtain ⟨ihC, ihE⟩ := val_fuel n
    refine ⟨fun vs hlt h => ?_, fun es hlt h => ?_⟩
    · cases h with
      | bool h hd b => rw [ty66] at h; cases h; cases hd
      | int h hd hw => rw [ty66] at h; cases h; cases hd
      | str h hd hs => rw [ty66] at h; cases h; cases hd
      | sl h hd hj hl hes => rw [ty66] at h; cases h; cases hd
      | struct h hd hf =>
        rw [ty66] at h; cases h; cases hd
        cases hf with
        | cons h1 hf =>
        cases hf with
        | cons h2 hf =>
        cases hf with
        | cons h3 hf =>
        cases hf with
        | cons h4 hf =>
        cases hf with
        | cons h5 hf =>
        cases hf with
        | cons h6 hf =>
        cases hf with
        | cons h7 hf =>
        cases hf with
        | cons h8 hf =>
        cases hf with
        | cons h9 hf =>
        cases hf
        obtain ⟨k, rfl, hk⟩ := int_of h1 ty3
        obtain ⟨m, rfl, hn⟩ := int_of h2 ty3
        obtain ⟨q, rfl, hq⟩ := int_of h3 ty3
        obtain ⟨b, rfl⟩ := bool_of h4 ty4
        obtain ⟨s, rfl, hs⟩ := str_of h5 ty9
        obtain ⟨d, e, rfl, hd, he⟩ := at_of h6
        obtain ⟨ts, rfl, htl, hts⟩ := types_of h7
        obtain ⟨ls, rfl, hl, hls⟩ := labels_of h8
        cases h9 with
        | bool h hd b => rw [ty55] at h; cases h; cases hd
        | int h hd hw => rw [ty55] at h; cases h; cases hd
        | str h hd hs => rw [ty55] at h; cases h; cases hd
        | struct h hd hf => rw [ty55] at h; cases h; cases hd
        | sl h hd' hj hl9 hes =>
          rw [ty55] at h; cases h; cases hd'
          rw [ty66] at hj; cases hj
          obtain ⟨xs, rfl, hx⟩ := ihE _ (by
            simp only [strC, List.flatten_cons, List.flatten_nil, List.cons_append, List.nil_append, List.cons.sizeOf_spec, AV.sl.sizeOf_spec] at hlt
            omega) hes
          exact ⟨⟨k, m, q, b, s, d, e, ts, ls, xs⟩, by rw [Val.cells_eq]; rfl, .mk hk hn hq he hs hd htl hts hl hls (by simpa using hl9) hx⟩
    · cases h with
      | nil => exact ⟨[], rfl, fun _ h => by cases h⟩
      | cons h hr =>
        simp only [List.cons.sizeOf_spec] at hlt
        obtain ⟨x, rfl, hx⟩ := ihC _ (by omega) h
        obtain ⟨l, rfl, hl⟩ := ihE _ (by omega) hr
        exact ⟨x :: l, rfl, fun y hy => by
          rcases List.mem_cons.1 hy with e | e
          · rw [e]; exact hx
          · exact hl y e⟩
theorem val_of {vs : List AV} (h : TypedC E 66 vs) : ∃ x : Val, vs = x.cells ∧ x.Ok := (val_fuel _).1 vs (Nat.lt_succ_self _) h
theorem vals_of {vs : List AV} (h : TypedC E 55 vs) : ∃ l : List Val, vs = [.sl 10 (l.map Val.cells)] ∧ l.length ≤ maxLen ∧ ∀ s ∈ l, s.Ok := by
  cases h with
  | bool h hd b => rw [ty55] at h; cases h; cases hd
  | int h hd hw => rw [ty55] at h; cases h; cases hd
  | str h hd hs => rw [ty55] at h; cases h; cases hd
  | struct h hd hf => rw [ty55] at h; cases h; cases hd
  | sl h hd hj hl hes =>
    rw [ty55] at h; cases h; cases hd
    rw [ty66] at hj; cases hj
    obtain ⟨l, rfl, hs⟩ := (val_fuel _).2 _ (Nat.lt_succ_self _) hes
    exact ⟨l, rfl, by simpa using hl, hs⟩

theorem core_fuel : ∀ n : Nat, (∀ vs : List AV, SizeOf.sizeOf vs < n → TypedC E 57 vs → ∃ x : Core, vs = x.cells ∧ x.Ok) ∧ (∀ es : List (List AV), SizeOf.sizeOf es < n → TypedE E 57 es → ∃ l : List Core, es = l.map Core.cells ∧ ∀ x ∈ l, x.Ok)
  | 0 => ⟨fun _ h => by omega, fun _ h => by omega⟩
  | n + 1 => by
    obtain ⟨ihC, ihE⟩ := core_fuel n
    refine ⟨fun vs hlt h => ?_, fun es hlt h => ?_⟩
    · cases h with
      | bool h hd b => rw [ty57] at h; cases h; cases hd
      | int h hd hw => rw [ty57] at h; cases h; cases hd
      | str h hd hs => rw [ty57] at h; cases h; cases hd
      | sl h hd hj hl hes => rw [ty57] at h; cases h; cases hd
      | struct h hd hf =>
        rw [ty57] at h; cases h; cases hd
        cases hf with
        | cons h1 hf =>
        cases hf with
        | cons h2 hf =>
        cases hf with
        | cons h3 hf =>
        cases hf with
        | cons h4 hf =>
        cases hf with
        | cons h5 hf =>
        cases hf with
        | cons h6 hf =>
        cases hf with
        | cons h7 hf =>
        cases hf with
        | cons h8 hf =>
        cases hf with
        | cons h9 hf =>
        cases hf with
        | cons h10 hf =>
        cases hf
        obtain ⟨k, rfl, hk⟩ := int_of h1 ty3
        obtain ⟨m, rfl, hn⟩ := int_of h2 ty3
        obtain ⟨q, rfl, hq⟩ := int_of h3 ty3
        obtain ⟨b, rfl⟩ := bool_of h4 ty4
        obtain ⟨s, rfl, hs⟩ := str_of h5 ty9
        obtain ⟨d, e, rfl, hd, he⟩ := at_of h6
        obtain ⟨ts, rfl, htl, hts⟩ := types_of h7
        obtain ⟨ls, rfl, hl, hls⟩ := labels_of h8
        obtain ⟨vs, rfl, hv, hvs⟩ := vals_of h10
        cases h9 with
        | bool h hd b => rw [ty54] at h; cases h; cases hd
        | int h hd hw => rw [ty54] at h; cases h; cases hd
        | str h hd hs => rw [ty54] at h; cases h; cases hd
        | struct h hd hf => rw [ty54] at h; cases h; cases hd
        | sl h hd' hj hl9 hes =>
          rw [ty54] at h; cases h; cases hd'
          rw [ty57] at hj; cases hj
          obtain ⟨xs, rfl, hx⟩ := ihE _ (by
            simp only [strC, List.flatten_cons, List.flatten_nil, List.cons_append, List.nil_append, List.cons.sizeOf_spec, AV.sl.sizeOf_spec] at hlt
            omega) hes
          exact ⟨⟨k, m, q, b, s, d, e, ts, ls, xs, vs⟩, by rw [Core.cells_eq]; rfl, .mk hk hn hq he hs hd htl hts hl hls (by simpa using hl9) hx hv hvs⟩
    · cases h with
      | nil => exact ⟨[], rfl, fun _ h => by cases h⟩
      | cons h hr =>
        simp only [List.cons.sizeOf_spec] at hlt
        obtain ⟨x, rfl, hx⟩ := ihC _ (by omega) h
        obtain ⟨l, rfl, hl⟩ := ihE _ (by omega) hr
        exact ⟨x :: l, rfl, fun y hy => by
          rcases List.mem_cons.1 hy with e | e
          · rw [e]; exact hx
          · exact hl y e⟩
theorem core_of {vs : List AV} (h : TypedC E 57 vs) : ∃ x : Core, vs = x.cells ∧ x.Ok := (core_fuel _).1 vs (Nat.lt_succ_self _) h
end Go.Sh.T
