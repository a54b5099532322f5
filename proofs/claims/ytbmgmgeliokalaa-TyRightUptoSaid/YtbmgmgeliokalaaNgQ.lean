/- NgQ: part of the proof: a shadow of the machine that is proved sound, and what the functions of this seat compute. Conditions: none. -/
import Derived.Test.YtbmgmgeliokalaaNgE
set_option linter.unusedSimpArgs false
namespace Go.Sh.T.Q
open Go Go.Sh Go.Proofs
set_option maxRecDepth 1000000
set_option linter.unusedVariables false
noncomputable def ti3 : TI := { size := 1, bytes := 8, desc := .int .i64, zero := [.v (.lit (.int .i64 0))] }
theorem tok3 : TyOk Try.prog 3 ti3 := .of (by kernel_rfl) (by kernel_rfl)
noncomputable def ti4 : TI := { size := 1, bytes := 1, desc := .bool, zero := [.v (.lit (.bool false))] }
theorem tok4 : TyOk Try.prog 4 ti4 := .of (by kernel_rfl) (by kernel_rfl)
noncomputable def ti5 : TI := { size := 1, bytes := 1, desc := .int .u8, zero := [.v (.lit (.int .u8 0))] }
theorem tok5 : TyOk Try.prog 5 ti5 := .of (by kernel_rfl) (by kernel_rfl)
noncomputable def ti9 : TI := { size := 1, bytes := 16, desc := .string, zero := [.v (.lit (.string ByteArray.empty))] }
theorem tok9 : TyOk Try.prog 9 ti9 := .of (by kernel_rfl) (by kernel_rfl)
noncomputable def ti22 : TI := { size := 1, bytes := 24, desc := .slice 9, zero := [.nil 1] }
theorem tok22 : TyOk Try.prog 22 ti22 := .of (by kernel_rfl) (by kernel_rfl)
noncomputable def ti23 : TI := { size := 1, bytes := 24, desc := .slice 25, zero := [.nil 5] }
theorem tok23 : TyOk Try.prog 23 ti23 := .of (by kernel_rfl) (by kernel_rfl)
noncomputable def ti25 : TI := { size := 5, bytes := 80, desc := .struct #[⟨"K", 3, 0, false, "", "", 0⟩, ⟨"N", 3, 1, false, "", "", 8⟩, ⟨"Name", 9, 2, false, "", "", 16⟩, ⟨"Labels", 22, 3, false, "", "", 32⟩, ⟨"Args", 23, 4, false, "", "", 56⟩], zero := [.v (.lit (.int .i64 0)), .v (.lit (.int .i64 0)), .v (.lit (.string ByteArray.empty)), .nil 1, .nil 5] }
theorem tok25 : TyOk Try.prog 25 ti25 := .of (by kernel_rfl) (by kernel_rfl)
noncomputable def ti28 : TI := { size := 1, bytes := 8, desc := .func #[25] #[4] false, zero := [.v (.lit .nilFunc)] }
theorem tok28 : TyOk Try.prog 28 ti28 := .of (by kernel_rfl) (by kernel_rfl)
noncomputable def ti32 : TI := { size := 1, bytes := 8, desc := .func #[25, 25] #[4] false, zero := [.v (.lit .nilFunc)] }
theorem tok32 : TyOk Try.prog 32 ti32 := .of (by kernel_rfl) (by kernel_rfl)
noncomputable def ti44 : TI := { size := 1, bytes := 8, desc := .func #[28] #[] false, zero := [.v (.lit .nilFunc)] }
theorem tok44 : TyOk Try.prog 44 ti44 := .of (by kernel_rfl) (by kernel_rfl)
noncomputable def ti50 : TI := { size := 1, bytes := 24, desc := .slice 52, zero := [.nil 6] }
theorem tok50 : TyOk Try.prog 50 ti50 := .of (by kernel_rfl) (by kernel_rfl)
noncomputable def ti52 : TI := { size := 6, bytes := 96, desc := .struct #[⟨"label", 9, 0, false, "", "limbeck/ty", 0⟩, ⟨"t", 25, 1, false, "", "limbeck/ty", 16⟩], zero := [.v (.lit (.string ByteArray.empty)), .v (.lit (.int .i64 0)), .v (.lit (.int .i64 0)), .v (.lit (.string ByteArray.empty)), .nil 1, .nil 5] }
theorem tok52 : TyOk Try.prog 52 ti52 := .of (by kernel_rfl) (by kernel_rfl)
noncomputable def ti54 : TI := { size := 1, bytes := 8, desc := .func #[52, 52] #[3] false, zero := [.v (.lit .nilFunc)] }
theorem tok54 : TyOk Try.prog 54 ti54 := .of (by kernel_rfl) (by kernel_rfl)
noncomputable def fs : List (Nat × Func) := [(8, Try.f8), (3, Try.f3), (4, Try.f4), (5, Try.f5), (6, Try.f6)]
noncomputable def gs : List (Nat × Func) := [(7, Try.f7), (9, Try.f9), (10, Try.f10), (11, Try.f11), (12, Try.f12), (13, Try.f13), (14, Try.f14), (15, Try.f15), (16, Try.f16), (17, Try.f17), (18, Try.f18), (19, Try.f19), (20, Try.f20), (21, Try.f21), (22, Try.f22), (23, Try.f23), (24, Try.f24), (26, Try.f26), (27, Try.f27), (28, Try.f28), (29, Try.f29), (30, Try.f30), (25, Try.f25)]
noncomputable def ts : List (Nat × TI) := [(3, ti3), (4, ti4), (5, ti5), (9, ti9), (22, ti22), (23, ti23), (25, ti25), (28, ti28), (32, ti32), (44, ti44), (50, ti50), (52, ti52), (54, ti54)]
noncomputable def hints : List (Nat × FHint) := [(8, { base := [(43, 5)] }), (3, {}), (4, {}), (5, {}), (6, { keep := [(0, [0, 1, 7, 14])] })]
noncomputable def E0 : Env := mkEnv Try.prog fs ts [] hints []
theorem allF : AllF Try.prog fs := ⟨Try.func8, Try.func3, Try.func4, Try.func5, Try.func6, trivial⟩
theorem allG : AllF Try.prog gs := ⟨Try.func7, Try.func9, Try.func10, Try.func11, Try.func12, Try.func13, Try.func14, Try.func15, Try.func16, Try.func17, Try.func18, Try.func19, Try.func20, Try.func21, Try.func22, Try.func23, Try.func24, Try.func26, Try.func27, Try.func28, Try.func29, Try.func30, Try.func25, trivial⟩
theorem allT : AllT Try.prog ts := ⟨tok3, tok4, tok5, tok9, tok22, tok23, tok25, tok28, tok32, tok44, tok50, tok52, tok54, trivial⟩
theorem okE0 : E0.Ok := mkEnv_ok (gs := []) allF trivial allT (by kernel_rfl) rfl rfl (by kernel_rfl) (by kernel_rfl)
end Go.Sh.T.Q

/- The laws' environment: what is called is one step each. -/
namespace Go.Sh.T.Q
open Go Go.Sh Go.Proofs
/-- What is told of a function in the first environment. -/
noncomputable def qq (f : Nat) : (Nat → List AV → Heap → R) → List AV → Heap → R := fun _ args h => evw Go.Sh.T.E f args h
theorem hsd : SoundC Try.prog (evw Go.Sh.T.E) := fun f args h out h' e => by
  obtain ⟨k, e⟩ := (evw_iff Go.Sh.T.primsC).1 e
  exact ev_ok Go.Sh.T.okE Go.Sh.T.primsOk k f args h out h' e
theorem qq_ok (f : Nat) (call : Nat → List AV → Heap → R) (args : List AV) (h : Heap) (out : Out) (h' : Heap) (e : qq f call args h = some (out, h')) : Ends Try.prog f args h out h' := hsd f args h out h' e
noncomputable abbrev q7 := qq 7
noncomputable abbrev q9 := qq 9
noncomputable abbrev q10 := qq 10
noncomputable abbrev q11 := qq 11
noncomputable abbrev q12 := qq 12
noncomputable abbrev q13 := qq 13
noncomputable abbrev q14 := qq 14
noncomputable abbrev q15 := qq 15
noncomputable abbrev q16 := qq 16
noncomputable abbrev q17 := qq 17
noncomputable abbrev q18 := qq 18
noncomputable abbrev q19 := qq 19
noncomputable abbrev q20 := qq 20
noncomputable abbrev q21 := qq 21
noncomputable abbrev q22 := qq 22
noncomputable abbrev q23 := qq 23
noncomputable abbrev q24 := qq 24
noncomputable abbrev q26 := qq 26
noncomputable abbrev q27 := qq 27
noncomputable abbrev q28 := qq 28
noncomputable abbrev q29 := qq 29
noncomputable abbrev q30 := qq 30
end Go.Sh.T.Q

namespace Go.Sh.T.Q
open Go Go.Sh Go.Proofs
set_option maxRecDepth 1000000
set_option linter.unusedVariables false
noncomputable def prims : List (Nat × ((Nat → List AV → Heap → R) → List AV → Heap → R)) := [(25, p25x), (7, q7), (9, q9), (10, q10), (11, q11), (12, q12), (13, q13), (14, q14), (15, q15), (16, q16), (17, q17), (18, q18), (19, q19), (20, q20), (21, q21), (22, q22), (23, q23), (24, q24), (26, q26), (27, q27), (28, q28), (29, q29), (30, q30)]
noncomputable def E : Env := mkEnv Try.prog fs ts prims hints []
theorem okE : E.Ok := mkEnv_ok (gs := gs) allF allG allT (by kernel_rfl) (by kernel_rfl) rfl (by kernel_rfl) (by kernel_rfl)
section
variable (F : Nat → List AV → Heap → R) (n : Nat) (h0 : Heap)
-- 8 limbeck/limbecklaw04.awake
theorem nf8 : runF E 8 Try.f8 F n [] h0 = onOut (F 29 [.agg [.lit (.int .i64 6), .lit (.int .i64 0), .lit (.string ⟨#[88]⟩), .sl 1 [], .sl 5 []], .agg [.lit (.int .i64 1), .lit (.int .i64 0), .lit (.string ByteArray.empty), .sl 1 [], .sl 5 []]] h0) (fun a1 h2 => (aggOf a1).bind fun l3 => cond (Nat.beq l3.length 5) (onOut (F 25 [.sl 1 [[.lit (.string ⟨#[98]⟩)], [.lit (.string ⟨#[97]⟩)]], .sl 5 [[.lit (.int .i64 1), .lit (.int .i64 0), .lit (.string ByteArray.empty), .sl 1 [], .sl 5 []], [(l3.getD 0 .dead), (l3.getD 1 .dead), (l3.getD 2 .dead), (l3.getD 3 .dead), (l3.getD 4 .dead)]]] h2) (fun a4 h5 => (tupOf a4).bind fun l6 => (l6[0]?).bind fun v7 => (tupOf a4).bind fun l8 => (l8[1]?).bind fun v9 => (aggOf v7).bind fun l10 => cond (Nat.beq l10.length 5) (onOut (F 27 [.agg [(l10.getD 0 .dead), (l10.getD 1 .dead), (l10.getD 2 .dead), (l10.getD 3 .dead), (l10.getD 4 .dead)], .lit (.string ⟨#[98]⟩)] h5) (fun a11 h12 => (tupOf a11).bind fun l13 => (l13[0]?).bind fun v14 => (tupOf a11).bind fun l15 => (l15[1]?).bind fun v16 => (aggOf v14).bind fun l17 => cond (Nat.beq l17.length 5) ((boolOf v9).bind fun b18 => cond b18 ((boolOf v16).bind fun b19 => cond b19 (onOut (F 9 [.agg [(l10.getD 0 .dead), (l10.getD 1 .dead), (l10.getD 2 .dead), (l10.getD 3 .dead), (l10.getD 4 .dead)]] h12) (fun a20 h21 => (boolOf a20).bind fun b22 => cond b22 (onOut (F 11 [.agg [(l10.getD 0 .dead), (l10.getD 1 .dead), (l10.getD 2 .dead), (l10.getD 3 .dead), (l10.getD 4 .dead)]] h21) (fun a23 h24 => (binAV E .eql 3 a23 (.lit (.int .i64 5))).bind fun r25 => (boolOf r25).bind fun b26 => cond b26 (onOut (F 13 [.agg [(l10.getD 0 .dead), (l10.getD 1 .dead), (l10.getD 2 .dead), (l10.getD 3 .dead), (l10.getD 4 .dead)]] h24) (fun a27 h28 => (binAV E .eql 3 a27 (.lit (.int .i64 3))).bind fun r29 => (boolOf r29).bind fun b30 => cond b30 ((binAV E .eql 3 (l17.getD 0 .dead) (.lit (.int .i64 1))).bind fun r31 => (boolOf r31).bind fun b32 => cond b32 (onOut (F 18 [.agg [(l10.getD 0 .dead), (l10.getD 1 .dead), (l10.getD 2 .dead), (l10.getD 3 .dead), (l10.getD 4 .dead)]] h28) (fun a33 h34 => (lenA E 22 a33).bind fun n35 => (binAV E .eql 3 (.lit (.int .i64 n35)) (.lit (.int .i64 1))).bind fun r36 => (boolOf r36).bind fun b37 => cond b37 (onOut (F 20 [.agg [(l10.getD 0 .dead), (l10.getD 1 .dead), (l10.getD 2 .dead), (l10.getD 3 .dead), (l10.getD 4 .dead)]] h34) (fun a38 h39 => (boolOf a38).bind fun b40 => cond b40 (onOut (F 22 [.agg [(l10.getD 0 .dead), (l10.getD 1 .dead), (l10.getD 2 .dead), (l10.getD 3 .dead), (l10.getD 4 .dead)], .agg [(l10.getD 0 .dead), (l10.getD 1 .dead), (l10.getD 2 .dead), (l10.getD 3 .dead), (l10.getD 4 .dead)]] h39) (fun a41 h42 => (boolOf a41).bind fun b43 => cond b43 (onOut (F 15 [.agg [(l10.getD 0 .dead), (l10.getD 1 .dead), (l10.getD 2 .dead), (l10.getD 3 .dead), (l10.getD 4 .dead)], .lit (.int .i64 7)] h42) (fun a44 h45 => some (.ret a44, h45)) (fun _ _ _ => none) (fun _ _ => none)) (some (.ret (.lit (.bool false)), h42))) (fun _ _ _ => none) (fun _ _ => none)) (some (.ret (.lit (.bool false)), h39))) (fun _ _ _ => none) (fun _ _ => none)) (some (.ret (.lit (.bool false)), h34))) (fun _ _ _ => none) (fun _ _ => none)) (some (.ret (.lit (.bool false)), h28))) (some (.ret (.lit (.bool false)), h28))) (fun _ _ _ => none) (fun _ _ => none)) (some (.ret (.lit (.bool false)), h24))) (fun _ _ _ => none) (fun _ _ => none)) (some (.ret (.lit (.bool false)), h21))) (fun _ _ _ => none) (fun _ _ => none)) (some (.ret (.lit (.bool false)), h12))) (some (.ret (.lit (.bool false)), h12))) none) (fun _ _ _ => none) (fun _ _ => none)) none) (fun _ _ _ => none) (fun _ _ => none)) none) (fun _ _ _ => none) (fun _ _ => none) := by kernel_rfl
-- 3 limbeck/limbecklaw04.TyRight
theorem nf3 (a0_ : AV) (a1_ : AV) : runF E 3 Try.f3 F n [a0_, a1_] h0 = (aggOf a0_).bind fun l1 => cond (Nat.beq l1.length 5) (onOut (F 7 [.agg [(l1.getD 0 .dead), (l1.getD 1 .dead), (l1.getD 2 .dead), (l1.getD 3 .dead), (l1.getD 4 .dead)]] h0) (fun a2 h3 => (binAV E .gtr 3 a2 (.lit (.int .i64 1500))).bind fun r4 => (boolOf r4).bind fun b5 => cond b5 (onOut (F 8 [] h3) (fun a6 h7 => some (.ret a6, h7)) (fun _ _ _ => none) (fun _ _ => none)) (onOut (F 9 [.agg [(l1.getD 0 .dead), (l1.getD 1 .dead), (l1.getD 2 .dead), (l1.getD 3 .dead), (l1.getD 4 .dead)]] h3) (fun a8 h9 => onOut (F 10 [.agg [(l1.getD 0 .dead), (l1.getD 1 .dead), (l1.getD 2 .dead), (l1.getD 3 .dead), (l1.getD 4 .dead)]] h9) (fun a10 h11 => (binAV E .eql 4 a8 a10).bind fun r12 => (boolOf r12).bind fun b13 => cond b13 (onOut (F 11 [.agg [(l1.getD 0 .dead), (l1.getD 1 .dead), (l1.getD 2 .dead), (l1.getD 3 .dead), (l1.getD 4 .dead)]] h11) (fun a14 h15 => onOut (F 12 [.agg [(l1.getD 0 .dead), (l1.getD 1 .dead), (l1.getD 2 .dead), (l1.getD 3 .dead), (l1.getD 4 .dead)]] h15) (fun a16 h17 => (binAV E .eql 3 a14 a16).bind fun r18 => (boolOf r18).bind fun b19 => cond b19 (onOut (F 13 [.agg [(l1.getD 0 .dead), (l1.getD 1 .dead), (l1.getD 2 .dead), (l1.getD 3 .dead), (l1.getD 4 .dead)]] h17) (fun a20 h21 => onOut (F 14 [.agg [(l1.getD 0 .dead), (l1.getD 1 .dead), (l1.getD 2 .dead), (l1.getD 3 .dead), (l1.getD 4 .dead)]] h21) (fun a22 h23 => (binAV E .eql 3 a20 a22).bind fun r24 => (boolOf r24).bind fun b25 => cond b25 (onOut (F 15 [.agg [(l1.getD 0 .dead), (l1.getD 1 .dead), (l1.getD 2 .dead), (l1.getD 3 .dead), (l1.getD 4 .dead)], a1_] h23) (fun a26 h27 => onOut (F 16 [.agg [(l1.getD 0 .dead), (l1.getD 1 .dead), (l1.getD 2 .dead), (l1.getD 3 .dead), (l1.getD 4 .dead)], a1_] h27) (fun a28 h29 => (binAV E .eql 4 a26 a28).bind fun r30 => (boolOf r30).bind fun b31 => cond b31 (onOut (F 18 [.agg [(l1.getD 0 .dead), (l1.getD 1 .dead), (l1.getD 2 .dead), (l1.getD 3 .dead), (l1.getD 4 .dead)]] h29) (fun a32 h33 => onOut (F 19 [.agg [(l1.getD 0 .dead), (l1.getD 1 .dead), (l1.getD 2 .dead), (l1.getD 3 .dead), (l1.getD 4 .dead)]] h33) (fun a34 h35 => onOut (F 17 [a32, a34] h35) (fun a36 h37 => (boolOf a36).bind fun b38 => cond b38 (onOut (F 20 [.agg [(l1.getD 0 .dead), (l1.getD 1 .dead), (l1.getD 2 .dead), (l1.getD 3 .dead), (l1.getD 4 .dead)]] h37) (fun a39 h40 => onOut (F 21 [.agg [(l1.getD 0 .dead), (l1.getD 1 .dead), (l1.getD 2 .dead), (l1.getD 3 .dead), (l1.getD 4 .dead)]] h40) (fun a41 h42 => (binAV E .eql 4 a39 a41).bind fun r43 => (boolOf r43).bind fun b44 => cond b44 (onOut (F 8 [] h42) (fun a45 h46 => some (.ret a45, h46)) (fun _ _ _ => none) (fun _ _ => none)) (some (.ret (.lit (.bool false)), h42))) (fun _ _ _ => none) (fun _ _ => none)) (fun _ _ _ => none) (fun _ _ => none)) (some (.ret (.lit (.bool false)), h37))) (fun _ _ _ => none) (fun _ _ => none)) (fun _ _ _ => none) (fun _ _ => none)) (fun _ _ _ => none) (fun _ _ => none)) (some (.ret (.lit (.bool false)), h29))) (fun _ _ _ => none) (fun _ _ => none)) (fun _ _ _ => none) (fun _ _ => none)) (some (.ret (.lit (.bool false)), h23))) (fun _ _ _ => none) (fun _ _ => none)) (fun _ _ _ => none) (fun _ _ => none)) (some (.ret (.lit (.bool false)), h17))) (fun _ _ _ => none) (fun _ _ => none)) (fun _ _ _ => none) (fun _ _ => none)) (some (.ret (.lit (.bool false)), h11))) (fun _ _ _ => none) (fun _ _ => none)) (fun _ _ _ => none) (fun _ _ => none))) (fun _ _ _ => none) (fun _ _ => none)) none := by kernel_rfl
-- 4 limbeck/limbecklaw04.TySame
theorem nf4 (a0_ : AV) (a1_ : AV) : runF E 4 Try.f4 F n [a0_, a1_] h0 = (aggOf a0_).bind fun l1 => cond (Nat.beq l1.length 5) ((aggOf a1_).bind fun l2 => cond (Nat.beq l2.length 5) (onOut (F 7 [.agg [(l1.getD 0 .dead), (l1.getD 1 .dead), (l1.getD 2 .dead), (l1.getD 3 .dead), (l1.getD 4 .dead)]] h0) (fun a3 h4 => (binAV E .gtr 3 a3 (.lit (.int .i64 1500))).bind fun r5 => (boolOf r5).bind fun b6 => cond b6 (onOut (F 8 [] h4) (fun a7 h8 => some (.ret a7, h8)) (fun _ _ _ => none) (fun _ _ => none)) (onOut (F 7 [.agg [(l2.getD 0 .dead), (l2.getD 1 .dead), (l2.getD 2 .dead), (l2.getD 3 .dead), (l2.getD 4 .dead)]] h4) (fun a9 h10 => (binAV E .gtr 3 a9 (.lit (.int .i64 1500))).bind fun r11 => (boolOf r11).bind fun b12 => cond b12 (onOut (F 8 [] h10) (fun a13 h14 => some (.ret a13, h14)) (fun _ _ _ => none) (fun _ _ => none)) (onOut (F 22 [.agg [(l1.getD 0 .dead), (l1.getD 1 .dead), (l1.getD 2 .dead), (l1.getD 3 .dead), (l1.getD 4 .dead)], .agg [(l2.getD 0 .dead), (l2.getD 1 .dead), (l2.getD 2 .dead), (l2.getD 3 .dead), (l2.getD 4 .dead)]] h10) (fun a15 h16 => onOut (F 23 [.agg [(l1.getD 0 .dead), (l1.getD 1 .dead), (l1.getD 2 .dead), (l1.getD 3 .dead), (l1.getD 4 .dead)], .agg [(l2.getD 0 .dead), (l2.getD 1 .dead), (l2.getD 2 .dead), (l2.getD 3 .dead), (l2.getD 4 .dead)]] h16) (fun a17 h18 => (binAV E .eql 4 a15 a17).bind fun r19 => (boolOf r19).bind fun b20 => cond b20 (onOut (F 22 [.agg [(l1.getD 0 .dead), (l1.getD 1 .dead), (l1.getD 2 .dead), (l1.getD 3 .dead), (l1.getD 4 .dead)], .agg [(l1.getD 0 .dead), (l1.getD 1 .dead), (l1.getD 2 .dead), (l1.getD 3 .dead), (l1.getD 4 .dead)]] h18) (fun a21 h22 => (boolOf a21).bind fun b23 => cond b23 (onOut (F 22 [.agg [(l2.getD 0 .dead), (l2.getD 1 .dead), (l2.getD 2 .dead), (l2.getD 3 .dead), (l2.getD 4 .dead)], .agg [(l1.getD 0 .dead), (l1.getD 1 .dead), (l1.getD 2 .dead), (l1.getD 3 .dead), (l1.getD 4 .dead)]] h22) (fun a24 h25 => onOut (F 22 [.agg [(l1.getD 0 .dead), (l1.getD 1 .dead), (l1.getD 2 .dead), (l1.getD 3 .dead), (l1.getD 4 .dead)], .agg [(l2.getD 0 .dead), (l2.getD 1 .dead), (l2.getD 2 .dead), (l2.getD 3 .dead), (l2.getD 4 .dead)]] h25) (fun a26 h27 => (binAV E .eql 4 a24 a26).bind fun r28 => (boolOf r28).bind fun b29 => cond b29 (onOut (F 8 [] h27) (fun a30 h31 => some (.ret a30, h31)) (fun _ _ _ => none) (fun _ _ => none)) (some (.ret (.lit (.bool false)), h27))) (fun _ _ _ => none) (fun _ _ => none)) (fun _ _ _ => none) (fun _ _ => none)) (some (.ret (.lit (.bool false)), h22))) (fun _ _ _ => none) (fun _ _ => none)) (some (.ret (.lit (.bool false)), h18))) (fun _ _ _ => none) (fun _ _ => none)) (fun _ _ _ => none) (fun _ _ => none))) (fun _ _ _ => none) (fun _ _ => none))) (fun _ _ _ => none) (fun _ _ => none)) none) none := by kernel_rfl
-- 5 limbeck/limbecklaw04.TyMakes
-- 6 limbeck/limbecklaw04.TyTurned
noncomputable def Lp6_0 (m : Nat) (h : Heap) (x47 : AV) (x48 : AV) (x49 : AV) (x50 : AV) (x51 : AV) (x52 : AV) (x53 : AV) (x54 : AV) : R := loopAt E 6 Try.f6 F n h0 [.r, .r, .r, .r, .r, .r, .r, .r, .r, .l, .r, .b] m { s := lkS [(0, .c (.v x47)), (1, .c (.v x48)), (7, .loc [.v x49, .v x50, .v x51, .v x52, .v x53]), (14, .c (.v x54))], h := h }
end
end Go.Sh.T.Q

namespace Go.Sh.T.Q
set_option linter.unusedVariables false
set_option linter.unusedSimpArgs false
open Go Go.Sh Go.Proofs
theorem primsOk : PrimsOk E := by
  intro f p hf call hs args h out h' e
  have hf : lkN prims f = some p := hf
  have hm := lkN_mem hf
  simp only [prims, List.mem_cons, Prod.mk.injEq, List.not_mem_nil, or_false] at hm
  rcases hm with ⟨rfl, rfl⟩ | ⟨rfl, rfl⟩ | ⟨rfl, rfl⟩ | ⟨rfl, rfl⟩ | ⟨rfl, rfl⟩ | ⟨rfl, rfl⟩ | ⟨rfl, rfl⟩ | ⟨rfl, rfl⟩ | ⟨rfl, rfl⟩ | ⟨rfl, rfl⟩ | ⟨rfl, rfl⟩ | ⟨rfl, rfl⟩ | ⟨rfl, rfl⟩ | ⟨rfl, rfl⟩ | ⟨rfl, rfl⟩ | ⟨rfl, rfl⟩ | ⟨rfl, rfl⟩ | ⟨rfl, rfl⟩ | ⟨rfl, rfl⟩ | ⟨rfl, rfl⟩ | ⟨rfl, rfl⟩ | ⟨rfl, rfl⟩ | ⟨rfl, rfl⟩
  · exact p25x_ok call args h out h' e
  all_goals exact qq_ok _ call args h out h' e
theorem primsC : PrimsC E := by
  intro f p hf
  have hf : lkN prims f = some p := hf
  have hm := lkN_mem hf
  simp only [prims, List.mem_cons, Prod.mk.injEq, List.not_mem_nil, or_false] at hm
  rcases hm with ⟨rfl, rfl⟩ | ⟨rfl, rfl⟩ | ⟨rfl, rfl⟩ | ⟨rfl, rfl⟩ | ⟨rfl, rfl⟩ | ⟨rfl, rfl⟩ | ⟨rfl, rfl⟩ | ⟨rfl, rfl⟩ | ⟨rfl, rfl⟩ | ⟨rfl, rfl⟩ | ⟨rfl, rfl⟩ | ⟨rfl, rfl⟩ | ⟨rfl, rfl⟩ | ⟨rfl, rfl⟩ | ⟨rfl, rfl⟩ | ⟨rfl, rfl⟩ | ⟨rfl, rfl⟩ | ⟨rfl, rfl⟩ | ⟨rfl, rfl⟩ | ⟨rfl, rfl⟩ | ⟨rfl, rfl⟩ | ⟨rfl, rfl⟩ | ⟨rfl, rfl⟩ <;> exact PrimC.const _
theorem stp {f : Nat} (hp : E.prim f = some (qq f)) {args : List AV} {h : Heap} {r : Out × Heap} (hx : evw Go.Sh.T.E f args h = some r) : evw E f args h = some r := evw_prim primsC hp hx
end Go.Sh.T.Q
